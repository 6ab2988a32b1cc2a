/- Parts of one proof, put together: P10 P11 P12 S3 P13 S4 P14 P15 H29 P16 P17 P18 P19 P20. -/
import Derived.Test.YtdjekmljjhehhaaFC3
import Derived.Laws.Strings
set_option maxHeartbeats 8000000
set_option maxRecDepth 10000
namespace Go.Ab
open Go.Proofs
def kwB : List ByteArray := [⟨#[112, 114, 105, 110, 99, 105, 112, 97, 108]⟩, ⟨#[103, 108, 111, 98, 97, 108]⟩, ⟨#[97, 114, 114, 97, 121]⟩, ⟨#[99, 104, 97, 110, 110, 101, 108]⟩, ⟨#[102, 117, 110, 99]⟩, ⟨#[118, 97, 114]⟩, ⟨#[105, 102]⟩, ⟨#[101, 108, 115, 101]⟩, ⟨#[119, 104, 105, 108, 101]⟩, ⟨#[115, 101, 110, 100]⟩, ⟨#[114, 101, 116, 117, 114, 110]⟩]
def byB (b : ByteArray) (i : Nat) : Nat := (b.data.toList.getD i 0).toNat
theorem byB_get {b : ByteArray} {i : Nat} (h : i < b.size) : (b[i]'h).toNat = byB b i := by
 unfold byB;rw [gdd, gee (by simpa using h)]
 rfl
theorem byB_lt (b : ByteArray) (i : Nat) : byB b i < 256 := by unfold byB; exact UInt8.toNat_lt _
def nameCh (i : Nat) (c : Nat) : Bool := decide ((97 ≤ c ∧ c ≤ 122) ∨ c = 95 ∨ (0 < i ∧ 48 ≤ c ∧ c ≤ 57))
def NotKw (b : ByteArray) (l : List ByteArray) : Prop := l.any (fun k => eqS b k) = false
def nameOk (b : ByteArray) : Bool := !(kwB.any fun k => eqS b k) && ((List.range b.size).all fun i => nameCh i (byB b i)) && decide (1 ≤ b.size ∧ b.size ≤ 32)
theorem NotKw.snoc {b k : ByteArray} {l : List ByteArray} (h : NotKw b l) (hk : (b.toList == k.toList) = false) : NotKw b (l ++ [k]) := by
 unfold NotKw at h ⊢;rw [List.any_append, h];simp only [List.any_cons, List.any_nil, eqS, hk]; rfl
theorem nameOk_kw {b k : ByteArray} (hm : k ∈ kwB) (h : (b.toList == k.toList) = true) : nameOk b = false := by
 have : kwB.any (fun k => eqS b k) = true := List.any_eq_true.2 ⟨k, hm, h⟩;rw [nameOk, this]; rfl
theorem nameOk_ch {b : ByteArray} {i : Nat} (hi : i < b.size) (h : nameCh i (byB b i) = false) : nameOk b = false := by
 have : ((List.range b.size).all fun i => nameCh i (byB b i)) = false := by
  rw [List.all_eq_false];exact ⟨i, by simpa using hi, by rw [h]; simp⟩
 rw [nameOk, this]; simp
theorem nameOk_fin {b : ByteArray} (hk : NotKw b kwB) (h : ∀ i, i < b.size → nameCh i (byB b i) = true) : nameOk b = decide (1 ≤ b.size ∧ b.size ≤ 32) := by
 have : ((List.range b.size).all fun i => nameCh i (byB b i)) = true := by
  rw [aet];exact fun i hi => h i (by simpa using hi)
 have hk : kwB.any (fun k => eqS b k) = false := hk;rw [nameOk, this, hk]; simp
theorem name_ok {s : St} {b : ByteArray} (hok : s.Ok) (hb : b.size ≤ maxBytes) :
  CallS Try.prog Tt Kt 97 [.str b] s fun r s' => Keep [] s s' ∧ r = .bool (nameOk b) := by
 refine cof 58 Try.func97 ?_;refine aq0 ?_;have hS := SH.start hok;have hK := hS.K;have hkw : NotKw b [] := rfl;have hbm : b.size ≤ 140737488355328 := hb;refine aq4 ?_;refine wc_condT rfl (fun h6 => ?_) (fun h6 => ?_)
 ·refine aq0 ?_;refine wc_cond_t rfl ?_;refine aq1 ?_;exact ⟨_, rfl, hK, by rw [nameOk_kw (by simp [kwB]) h6]; rfl⟩
 have hkw := hkw.snoc h6;refine aq2 ?_;refine wc_condT rfl (fun h6 => ?_) (fun h6 => ?_)
 ·refine aq0 ?_;refine wc_cond_t rfl ?_;refine aq1 ?_;exact ⟨_, rfl, hK, by rw [nameOk_kw (by simp [kwB]) h6]; rfl⟩
 have hkw := hkw.snoc h6;refine aq2 ?_;refine wc_condT rfl (fun h6 => ?_) (fun h6 => ?_)
 ·refine aq0 ?_;refine wc_cond_t rfl ?_;refine aq1 ?_;exact ⟨_, rfl, hK, by rw [nameOk_kw (by simp [kwB]) h6]; rfl⟩
 have hkw := hkw.snoc h6;refine aq2 ?_;refine wc_condT rfl (fun h6 => ?_) (fun h6 => ?_)
 ·refine aq0 ?_;refine wc_cond_t rfl ?_;refine aq1 ?_;exact ⟨_, rfl, hK, by rw [nameOk_kw (by simp [kwB]) h6]; rfl⟩
 have hkw := hkw.snoc h6;refine aq2 ?_;refine wc_condT rfl (fun h6 => ?_) (fun h6 => ?_)
 ·refine aq0 ?_;refine wc_cond_t rfl ?_;refine aq1 ?_;exact ⟨_, rfl, hK, by rw [nameOk_kw (by simp [kwB]) h6]; rfl⟩
 have hkw := hkw.snoc h6;refine aq2 ?_;refine wc_condT rfl (fun h6 => ?_) (fun h6 => ?_)
 ·refine aq0 ?_;refine wc_cond_t rfl ?_;refine aq1 ?_;exact ⟨_, rfl, hK, by rw [nameOk_kw (by simp [kwB]) h6]; rfl⟩
 have hkw := hkw.snoc h6;refine aq2 ?_;refine wc_condT rfl (fun h6 => ?_) (fun h6 => ?_)
 ·refine aq0 ?_;refine wc_cond_t rfl ?_;refine aq1 ?_;exact ⟨_, rfl, hK, by rw [nameOk_kw (by simp [kwB]) h6]; rfl⟩
 have hkw := hkw.snoc h6;refine aq2 ?_;refine wc_condT rfl (fun h6 => ?_) (fun h6 => ?_)
 ·refine aq0 ?_;refine wc_cond_t rfl ?_;refine aq1 ?_;exact ⟨_, rfl, hK, by rw [nameOk_kw (by simp [kwB]) h6]; rfl⟩
 have hkw := hkw.snoc h6;refine aq2 ?_;refine wc_condT rfl (fun h6 => ?_) (fun h6 => ?_)
 ·refine aq0 ?_;refine wc_cond_t rfl ?_;refine aq1 ?_;exact ⟨_, rfl, hK, by rw [nameOk_kw (by simp [kwB]) h6]; rfl⟩
 have hkw := hkw.snoc h6;refine aq2 ?_;refine wc_condT rfl (fun h6 => ?_) (fun h6 => ?_)
 ·refine aq0 ?_;refine wc_cond_t rfl ?_;refine aq1 ?_;exact ⟨_, rfl, hK, by rw [nameOk_kw (by simp [kwB]) h6]; rfl⟩
 have hkw := hkw.snoc h6;refine aq2 ?_;refine wc_condT rfl (fun h6 => ?_) (fun h6 => ?_)
 ·refine aq1 ?_;exact ⟨_, rfl, hK, by rw [nameOk_kw (by simp [kwB]) h6]; rfl⟩
 have hkw := hkw.snoc h6;refine aq1 ?_;refine ws_bytes hS rfl rfl rfl rfl rfl rfl rfl rfl rfl rfl hb ?_;rintro c0 z hS hk;have hS : SH _ [_] z := hS;have hK := hS.K;have hkw : NotKw b kwB := hkw;refine wvz (oN rfl) ?_;refine aq1 ?_;refine wc_loop_at (fun jj m z => ∃ i : Nat, jj = b.size - i ∧ i ≤ b.size ∧ m = [(0, .str b), (19, .slc c0 0 0 1 b.size b.size false), (20, .int .i64 (b.size : Nat)), (21, .int .i64 (i : Nat))] ∧ SH s [frzC c0 (bytesA b)] z ∧ ∀ j, j < i → nameCh j (byB b j) = true) b.size
  [(0, .str b), (19, .slc c0 0 0 1 b.size b.size false), (20, .int .i64 (b.size : Nat)), (21, .int .i64 ((0 : Nat) : Int))] (scn rfl (scn rfl (scn rfl (scn rfl (Sub.nil _))))) ⟨0, by simp, by simp, rfl, hS, fun j h => by omega⟩ ?_
 clear hS hK;rintro jj m z ⟨i, rfl, hi, rfl, hS, hq⟩;have hK := hS.K;refine aq1 ?_;refine wcd (fun h22 => ?_) (fun h22 => ?_)
 ·have hil : i < b.size := by omega
  have hby := byB_get hil;have hbl := byB_lt b i;refine aq1 ?_;refine wvz (op_idxB rfl rfl (natA_cast _ _) rfl rfl rfl rfl hil) ?_;refine wvz (v := .int .u8 (byB b i : Nat)) (op_loadB rfl rfl rfl rfl (hS.get 0 rfl) (by rw [bytesA_get hil, hby])) ?_;refine aq5 ?_;refine w_split (i := 28) rfl (fun h28 => ?_) (fun h28 => ?_)
  ·simp only [dtt, ge_iff_le] at h28;refine aq4 ?_;refine w_split (i := 32) rfl (fun h32 => ?_) (fun h32 => ?_)
   ·simp only [dtt] at h32;refine aq12 ?_;refine aq4 ?_;refine wc_cond_f rfl ?_;refine aq0 ?_;refine wad ?_;refine aq1 ?_;exact rn ⟨i + 1, rfl, by omega, rfl, hS, fun j hj => (lsl.1 hj).elim (hq j) fun e => by
      rw [e]; first | exact decide_eq_true (by omega) | (simp at h48; exact decide_eq_true (by omega))⟩
   simp only [dff] at h32;refine aq4 ?_;refine w_split (i := 36) rfl (fun h36 => ?_) (fun h36 => ?_)
   ·simp only [beq_iff_eq] at h36;refine aq12 ?_;refine wc_cond_f rfl ?_;refine aq0 ?_;refine wad ?_;refine aq1 ?_;exact rn ⟨i + 1, rfl, by omega, rfl, hS, fun j hj => (lsl.1 hj).elim (hq j) fun e => by
      rw [e]; first | exact decide_eq_true (by omega) | (simp at h48; exact decide_eq_true (by omega))⟩
   simp only [bff, ne_eq] at h36;refine aq3 ?_;refine w_split (i := 39) rfl (fun h39 => ?_) (fun h39 => ?_)
   ·simp only [dtt, gt_iff_lt] at h39;refine aq4 ?_;refine w_split (i := 43) rfl (fun h43 => ?_) (fun h43 => ?_)
    ·simp only [dtt, ge_iff_le] at h43;refine aq5 ?_;refine wc_condT rfl (fun h48 => ?_) (fun h48 => ?_)
     ·refine aq1 ?_;exact ⟨_, rfl, hK, by rw [nameOk_ch hil (decide_eq_false (by omega))]; rfl⟩
     refine aq0 ?_;refine wad ?_;refine aq1 ?_;exact rn ⟨i + 1, rfl, by omega, rfl, hS, fun j hj => (lsl.1 hj).elim (hq j) fun e => by
       rw [e]; first | exact decide_eq_true (by omega) | (simp at h48; exact decide_eq_true (by omega))⟩
    simp only [dff, ge_iff_le] at h43;refine aq5 ?_;refine wc_cond_t rfl ?_;refine aq1 ?_;exact ⟨_, rfl, hK, by rw [nameOk_ch hil (decide_eq_false (by omega))]; rfl⟩
   simp only [dff, gt_iff_lt] at h39;refine aq9 ?_;refine wc_cond_t rfl ?_;refine aq1 ?_;exact ⟨_, rfl, hK, by rw [nameOk_ch hil (decide_eq_false (by omega))]; rfl⟩
  simp only [dff, ge_iff_le] at h28;refine aq8 ?_;refine w_split (i := 36) rfl (fun h36 => ?_) (fun h36 => ?_)
  ·simp only [beq_iff_eq] at h36;refine aq12 ?_;refine wc_cond_f rfl ?_;refine aq0 ?_;refine wad ?_;refine aq1 ?_;exact rn ⟨i + 1, rfl, by omega, rfl, hS, fun j hj => (lsl.1 hj).elim (hq j) fun e => by
     rw [e]; first | exact decide_eq_true (by omega) | (simp at h48; exact decide_eq_true (by omega))⟩
  simp only [bff, ne_eq] at h36;refine aq3 ?_;refine w_split (i := 39) rfl (fun h39 => ?_) (fun h39 => ?_)
  ·simp only [dtt, gt_iff_lt] at h39;refine aq4 ?_;refine w_split (i := 43) rfl (fun h43 => ?_) (fun h43 => ?_)
   ·simp only [dtt, ge_iff_le] at h43;refine aq5 ?_;refine wc_condT rfl (fun h48 => ?_) (fun h48 => ?_)
    ·refine aq1 ?_
     (simp at h48; exact ⟨_, rfl, hK, by rw [nameOk_ch hil (decide_eq_false (by omega))]; rfl⟩)
    refine aq0 ?_;refine wad ?_;refine aq1 ?_;exact rn ⟨i + 1, rfl, by omega, rfl, hS, fun j hj => (lsl.1 hj).elim (hq j) fun e => by
      rw [e]; first | exact decide_eq_true (by omega) | (simp at h48; exact decide_eq_true (by omega))⟩
   simp only [dff, ge_iff_le] at h43;refine aq5 ?_;refine wc_cond_t rfl ?_;refine aq1 ?_;exact ⟨_, rfl, hK, by rw [nameOk_ch hil (decide_eq_false (by omega))]; rfl⟩
  simp only [dff, gt_iff_lt] at h39;refine aq9 ?_;refine wc_cond_t rfl ?_;refine aq1 ?_;exact ⟨_, rfl, hK, by rw [nameOk_ch hil (decide_eq_false (by omega))]; rfl⟩
 obtain rfl : i = b.size := by omega
 refine aq1 ?_;refine wvz (op_lenS rfl rfl rfl rfl rfl) ?_;refine aq2 ?_;refine w_split (i := 53) rfl (fun h53 => ?_) (fun h53 => ?_)
 ·simp only [dtt, ge_iff_le] at h53;refine aq1 ?_;refine wvz (op_lenS rfl rfl rfl rfl rfl) ?_;refine aq3 ?_;exact ⟨_, rfl, hK, by rw [nameOk_fin hkw hq]; exact congrArg AV.bool (decide_eq_decide.2 (by omega))⟩
 simp only [dff, ge_iff_le] at h53;refine aq5 ?_;exact ⟨_, rfl, hK, by rw [nameOk_fin hkw hq]; exact congrArg AV.bool (decide_eq_false (by omega)).symm⟩
theorem notKw_all {b : ByteArray} (h : ∀ (j : Nat) (k : ByteArray), kwB[j]? = some k → (k.toList == b.toList) = false) : NotKw b kwB := by
 unfold NotKw;rw [List.any_eq_false];intro k hk;obtain ⟨j, hj⟩ := List.getElem?_of_mem hk;have := h j k hj;unfold eqS;rw [BEq.comm, this]; simp
theorem name_ref_ok {s : St} {b : ByteArray} (hok : s.Ok) (hb : b.size ≤ maxBytes) :
  CallS Try.prog Tt Kt 113 [.str b] s fun r s' => Keep [] s s' ∧ r = .bool (nameOk b) := by
 refine cof 71 Try.func113 ?_;refine aq0 ?_;have hS := SH.start hok;have hbm : b.size ≤ 140737488355328 := hb;refine aq1 ?_;refine w_lit (kwB.map sC) rfl rfl rfl rfl rfl rfl rfl (by decide) (by decide) rfl rfl rfl (by intro x hx; obtain ⟨y, -, rfl⟩ := List.mem_map.1 hx; exact ⟨rfl, rfl⟩) rfl hS.ok ?_;rintro wv z hw hk - hwg;have hS := hS.add hk (rowC wv 1 (kwB.map sC)) ⟨hw, fun e => by rw [hwg] at e; cases e⟩ (fun g h => ⟨by have h : g ∈ wv.gs := h; rw [hwg] at h; rw [msi.1 h]; exact nlr _, hw.lt hk.ok g h⟩);have hS : SH _ [_] z := hS;have hK := hS.K;refine aq2 ?_;refine wc_loop_at (fun jj m z => ∃ i : Nat, jj = 11 - i ∧ i ≤ 11 ∧ m = [(0, .str b), (3, wv), (4, .int .i64 (i : Nat))] ∧ SH s [rowC wv 1 (kwB.map sC)] z ∧ ∀ (j : Nat) (k : ByteArray), j < i → kwB[j]? = some k → (k.toList == b.toList) = false) 11
  [(0, .str b), (3, wv), (4, .int .i64 ((0 : Nat) : Int))] (scn rfl (scn rfl (scn rfl (Sub.nil _)))) ⟨0, by simp, by simp, rfl, hS, fun j k h => by omega⟩ ?_
 clear hS hK hw hwg hk;rintro jj m z ⟨i, rfl, hi, rfl, hS, hq⟩;have hK := hS.K;have hkl : kwB.length = 11 := rfl;refine aq2 ?_;refine wvz (v := .int .i64 ((11 : Nat) : Int)) (op_len rfl rfl rfl rfl rfl (hS.row 0 rfl).slenF) ?_;refine aq1 ?_;refine wcd (fun h12 => ?_) (fun h12 => ?_)
 ·refine aq0 ?_;obtain ⟨k, hk⟩ : ∃ k, kwB[i]? = some k := ⟨_, gee (by omega)⟩;refine aq2 ?_;refine wvz (oJ (hS.row 0 rfl)) ?_;refine wvz (op_load rfl rfl (Row.mk_pt (hS.row 0 rfl) (by assumption)) rfl) ?_;refine aq2 ?_;refine wc_condT rfl (fun h20 => ?_) (fun h20 => ?_)
  ·refine aq1 ?_;exact ⟨_, rfl, hK, by rw [nameOk_kw (mog hk) (by rw [BEq.comm]; exact h20)]; rfl⟩
  refine aq1 ?_;refine wad ?_;refine aq1 ?_;exact rn ⟨i + 1, rfl, by omega, rfl, hS, fun j k' hj hjk => (lsl.1 hj).elim (fun h => hq j k' h hjk) fun e => by subst e; rw [hk] at hjk; cases hjk; exact h20⟩
 obtain rfl : i = 11 := by omega
 have hkw : NotKw b kwB := notKw_all fun j k hj => hq j k (by have := (ges.1 hj).1; omega) hj;clear hq;refine aq1 ?_;refine wc_loop_at (fun jj m z => ∃ i : Nat, jj = b.size - i ∧ i ≤ b.size ∧ m = [(0, .str b), (5, .int .i64 (i : Nat))] ∧ Keep [] s z ∧ ∀ j, j < i → nameCh j (byB b j) = true) b.size
  [(0, .str b), (5, .int .i64 ((0 : Nat) : Int))] (scn rfl (scn rfl (Sub.nil _))) ⟨0, by simp, by simp, rfl, hK, fun j h => by omega⟩ ?_
 clear hS hK;rintro jj m z ⟨i, rfl, hi, rfl, hK, hq⟩;refine aq2 ?_;refine wvz (op_lenS rfl rfl rfl rfl rfl) ?_;refine aq1 ?_;refine wcd (fun h24 => ?_) (fun h24 => ?_)
 ·have hil : i < b.size := by omega
  have hby := byB_get hil;have hbl := byB_lt b i;refine aq2 ?_;refine wvz (v := .int .u8 (byB b i : Nat)) (by rw [← hby]; exact op_index rfl rfl (natA_cast _ _) rfl rfl hil) ?_;refine aq2 ?_;refine w_split (i := 31) rfl (fun h31 => ?_) (fun h31 => ?_)
  ·simp only [dtt, ge_iff_le] at h31;refine aq2 ?_;refine wvz (v := .int .u8 (byB b i : Nat)) (by rw [← hby]; exact op_index rfl rfl (natA_cast _ _) rfl rfl hil) ?_;refine aq3 ?_;refine w_split (i := 37) rfl (fun h37 => ?_) (fun h37 => ?_)
   ·simp only [dtt] at h37;refine aq8 ?_;refine wvz (v := .int .u8 (byB b i : Nat)) (by rw [← hby]; exact op_index rfl rfl (natA_cast _ _) rfl rfl hil) ?_;refine aq2 ?_;refine w_split (i := 47) rfl (fun h47 => ?_) (fun h47 => ?_)
    ·simp only [dtt, ge_iff_le] at h47;refine aq2 ?_;refine wvz (v := .int .u8 (byB b i : Nat)) (by rw [← hby]; exact op_index rfl rfl (natA_cast _ _) rfl rfl hil) ?_;refine aq12 ?_;refine aq1 ?_;refine wc_cond_f rfl ?_;refine aq1 ?_;refine wad ?_;refine aq1 ?_;exact rn ⟨i + 1, rfl, by omega, rfl, hK, fun j hj => (lsl.1 hj).elim (hq j) fun e => by
       rw [e]; first | exact decide_eq_true (by omega) | (simp at h62; exact decide_eq_true (by omega)) | (exfalso; simp at h62)⟩
    simp only [dff, ge_iff_le] at h47;refine aq12 ?_;refine aq4 ?_;refine wc_cond_f rfl ?_;refine aq1 ?_;refine wad ?_;refine aq1 ?_;exact rn ⟨i + 1, rfl, by omega, rfl, hK, fun j hj => (lsl.1 hj).elim (hq j) fun e => by
      rw [e]; first | exact decide_eq_true (by omega) | (simp at h62; exact decide_eq_true (by omega)) | (exfalso; simp at h62)⟩
   simp only [dff] at h37;refine aq2 ?_;refine wvz (v := .int .u8 (byB b i : Nat)) (by rw [← hby]; exact op_index rfl rfl (natA_cast _ _) rfl rfl hil) ?_;refine aq5 ?_;refine wvz (v := .int .u8 (byB b i : Nat)) (by rw [← hby]; exact op_index rfl rfl (natA_cast _ _) rfl rfl hil) ?_;refine aq2 ?_;refine w_split (i := 47) rfl (fun h47 => ?_) (fun h47 => ?_)
   ·simp only [dtt, ge_iff_le] at h47;refine aq2 ?_;refine wvz (v := .int .u8 (byB b i : Nat)) (by rw [← hby]; exact op_index rfl rfl (natA_cast _ _) rfl rfl hil) ?_;refine aq6 ?_;refine w_split (i := 55) rfl (fun h55 => ?_) (fun h55 => ?_)
    ·simp only [bff, ne_eq, Bool.not_eq_true'] at h55;refine aq3 ?_;refine w_split (i := 58) rfl (fun h58 => ?_) (fun h58 => ?_)
     ·simp only [beq_iff_eq] at h58;refine aq4 ?_;refine wc_cond_t rfl ?_;refine aq1 ?_;exact ⟨_, rfl, hK, by rw [nameOk_ch hil (decide_eq_false (by omega))]; rfl⟩
     simp only [bff, ne_eq] at h58;refine aq4 ?_;refine wc_condT rfl (fun h62 => ?_) (fun h62 => ?_)
     ·refine aq1 ?_;exact ⟨_, rfl, hK, by rw [nameOk_ch hil (decide_eq_false (by omega))]; rfl⟩
     refine aq1 ?_;refine wad ?_;refine aq1 ?_;exact rn ⟨i + 1, rfl, by omega, rfl, hK, fun j hj => (lsl.1 hj).elim (hq j) fun e => by
       rw [e]; first | exact decide_eq_true (by omega) | (simp at h62; exact decide_eq_true (by omega)) | (exfalso; simp at h62)⟩
    simp only [beq_iff_eq, Bool.not_eq_false'] at h55;refine aq7 ?_;refine wc_cond_f rfl ?_;refine aq1 ?_;refine wad ?_;refine aq1 ?_;exact rn ⟨i + 1, rfl, by omega, rfl, hK, fun j hj => (lsl.1 hj).elim (hq j) fun e => by
      rw [e]; first | exact decide_eq_true (by omega) | (simp at h62; exact decide_eq_true (by omega)) | (exfalso; simp at h62)⟩
   simp only [dff, ge_iff_le] at h47;refine aq9 ?_;refine w_split (i := 55) rfl (fun h55 => ?_) (fun h55 => ?_)
   ·simp only [bff, ne_eq, Bool.not_eq_true'] at h55;refine aq3 ?_;refine w_split (i := 58) rfl (fun h58 => ?_) (fun h58 => ?_)
    ·simp only [beq_iff_eq] at h58;refine aq4 ?_;refine wc_cond_t rfl ?_;refine aq1 ?_;exact ⟨_, rfl, hK, by rw [nameOk_ch hil (decide_eq_false (by omega))]; rfl⟩
    simp only [bff, ne_eq] at h58;refine aq4 ?_;refine wc_cond_t rfl ?_;refine aq1 ?_;exact ⟨_, rfl, hK, by rw [nameOk_ch hil (decide_eq_false (by omega))]; rfl⟩
   simp only [beq_iff_eq, Bool.not_eq_false'] at h55;refine aq7 ?_;refine wc_cond_f rfl ?_;refine aq1 ?_;refine wad ?_;refine aq1 ?_;exact rn ⟨i + 1, rfl, by omega, rfl, hK, fun j hj => (lsl.1 hj).elim (hq j) fun e => by
     rw [e]; first | exact decide_eq_true (by omega) | (simp at h62; exact decide_eq_true (by omega)) | (exfalso; simp at h62)⟩
  simp only [dff, ge_iff_le] at h31;refine aq8 ?_;refine wvz (v := .int .u8 (byB b i : Nat)) (by rw [← hby]; exact op_index rfl rfl (natA_cast _ _) rfl rfl hil) ?_;refine aq5 ?_;refine wvz (v := .int .u8 (byB b i : Nat)) (by rw [← hby]; exact op_index rfl rfl (natA_cast _ _) rfl rfl hil) ?_;refine aq2 ?_;refine w_split (i := 47) rfl (fun h47 => ?_) (fun h47 => ?_)
  ·simp only [dtt, ge_iff_le] at h47;refine aq2 ?_;refine wvz (v := .int .u8 (byB b i : Nat)) (by rw [← hby]; exact op_index rfl rfl (natA_cast _ _) rfl rfl hil) ?_;refine aq6 ?_;refine w_split (i := 55) rfl (fun h55 => ?_) (fun h55 => ?_)
   ·simp only [bff, ne_eq, Bool.not_eq_true'] at h55;refine aq3 ?_;refine w_split (i := 58) rfl (fun h58 => ?_) (fun h58 => ?_)
    ·simp only [beq_iff_eq] at h58;refine aq4 ?_;refine wc_cond_t rfl ?_;refine aq1 ?_;exact ⟨_, rfl, hK, by rw [nameOk_ch hil (decide_eq_false (by omega))]; rfl⟩
    simp only [bff, ne_eq] at h58;refine aq4 ?_;refine wc_condT rfl (fun h62 => ?_) (fun h62 => ?_)
    ·refine aq1 ?_
     (simp at h62; exact ⟨_, rfl, hK, by rw [nameOk_ch hil (decide_eq_false (by omega))]; rfl⟩)
    refine aq1 ?_;refine wad ?_;refine aq1 ?_;exact rn ⟨i + 1, rfl, by omega, rfl, hK, fun j hj => (lsl.1 hj).elim (hq j) fun e => by
      rw [e]; first | exact decide_eq_true (by omega) | (simp at h62; exact decide_eq_true (by omega)) | (exfalso; simp at h62)⟩
   simp only [beq_iff_eq, Bool.not_eq_false'] at h55;refine aq7 ?_;refine wc_cond_f rfl ?_;refine aq1 ?_;refine wad ?_;refine aq1 ?_;exact rn ⟨i + 1, rfl, by omega, rfl, hK, fun j hj => (lsl.1 hj).elim (hq j) fun e => by
     rw [e]; first | exact decide_eq_true (by omega) | (simp at h62; exact decide_eq_true (by omega)) | (exfalso; simp at h62)⟩
  simp only [dff, ge_iff_le] at h47;refine aq9 ?_;refine w_split (i := 55) rfl (fun h55 => ?_) (fun h55 => ?_)
  ·simp only [bff, ne_eq, Bool.not_eq_true'] at h55;refine aq3 ?_;refine w_split (i := 58) rfl (fun h58 => ?_) (fun h58 => ?_)
   ·simp only [beq_iff_eq] at h58;refine aq4 ?_;refine wc_cond_t rfl ?_;refine aq1 ?_;exact ⟨_, rfl, hK, by rw [nameOk_ch hil (decide_eq_false (by omega))]; rfl⟩
   simp only [bff, ne_eq] at h58;refine aq4 ?_;refine wc_cond_t rfl ?_;refine aq1 ?_;exact ⟨_, rfl, hK, by rw [nameOk_ch hil (decide_eq_false (by omega))]; rfl⟩
  simp only [beq_iff_eq, Bool.not_eq_false'] at h55;refine aq7 ?_;refine wc_cond_f rfl ?_;refine aq1 ?_;refine wad ?_;refine aq1 ?_;exact rn ⟨i + 1, rfl, by omega, rfl, hK, fun j hj => (lsl.1 hj).elim (hq j) fun e => by
    rw [e]; first | exact decide_eq_true (by omega) | (simp at h62; exact decide_eq_true (by omega)) | (exfalso; simp at h62)⟩
 obtain rfl : i = b.size := by omega
 refine aq1 ?_;refine wvz (op_lenS rfl rfl rfl rfl rfl) ?_;refine aq2 ?_;refine w_split (i := 66) rfl (fun h66 => ?_) (fun h66 => ?_)
 ·simp only [dtt, gt_iff_lt] at h66;refine aq1 ?_;refine wvz (op_lenS rfl rfl rfl rfl rfl) ?_;refine aq3 ?_;exact ⟨_, rfl, hK, by rw [nameOk_fin hkw hq]; exact congrArg AV.bool (decide_eq_decide.2 (by omega))⟩
 simp only [dff, gt_iff_lt] at h66;refine aq5 ?_;exact ⟨_, rfl, hK, by rw [nameOk_fin hkw hq]; exact congrArg AV.bool (decide_eq_false (by omega)).symm⟩
end Go.Ab
namespace Go.Ab
open Go.Proofs
theorem SH.of {s z : St} (hK : Keep [] s z) : SH s [] z := ⟨hK, fun i c h => by simp at h, fun i j c d _ h => by simp at h⟩
def empI (b : ByteArray) : Int := if (b.toList == ByteArray.toList ⟨#[]⟩) = true then 1 else 0
theorem empI_t {b : ByteArray} (h : (b.toList == ByteArray.toList ⟨#[]⟩) = true) : empI b = 1 := if_pos h
theorem empI_f {b : ByteArray} (h : (b.toList == ByteArray.toList ⟨#[]⟩) = false) : empI b = 0 := if_neg (by rw [h]; simp)
theorem empI_nt {b : ByteArray} (h : (!(b.toList == ByteArray.toList ⟨#[]⟩)) = true) : empI b = 0 := empI_f (by simpa only [Bool.not_eq_true'] using h)
theorem empI_nf {b : ByteArray} (h : (!(b.toList == ByteArray.toList ⟨#[]⟩)) = false) : empI b = 1 := empI_t (by simpa only [Bool.not_eq_false'] using h)
theorem empI_iff {b : ByteArray} : (b.toList == ByteArray.toList ⟨#[]⟩) = true ↔ empI b = 1 := by
 constructor
 ·exact empI_t
 ·intro h;cases e : (b.toList == ByteArray.toList ⟨#[]⟩) with
  | true => rfl
  | false => rw [empI_f e] at h; omega
theorem empI_01 (b : ByteArray) : 0 ≤ empI b ∧ empI b ≤ 1 := by unfold empI; split <;> omega
def wNext (n : Int) (t : TermL) (n' : Int) : Prop :=
 (t.kind = 1 ∧ 0 ≤ t.value ∧ empI t.name = 1 ∧ n' = n + 1) ∨ (t.kind = 2 ∧ t.value = 0 ∧ n' = n + 1) ∨ (t.kind = 3 ∧ 1 ≤ n ∧ t.value = 0 ∧ n' = n) ∨
 (t.kind = 4 ∧ 1 ≤ n ∧ empI t.name = 1 ∧ 15 ≤ t.value ∧ t.value ≤ 17 ∧ n' = n) ∨ (t.kind = 5 ∧ 2 ≤ n ∧ empI t.name = 1 ∧ 1 ≤ t.value ∧ t.value ≤ 14 ∧ n' = n - 1)
def WA (ts : List TermL) : Nat → Int → Prop
 | 0, n => n = 0
 | i + 1, n' => ∃ n t, WA ts i n ∧ ts[i]? = some t ∧ wNext n t n'
open Classical in
noncomputable def wholeN (ts : List TermL) : Bool := decide (WA ts ts.length 1)
theorem WA.uniq {ts : List TermL} : ∀ {i : Nat} {a b : Int}, WA ts i a → WA ts i b → a = b
 | 0, a, b, h, k => by rw [show a = 0 from h, show b = 0 from k]
 | i + 1, a, b, ⟨n, t, h1, h2, h3⟩, ⟨n', t', k1, k2, k3⟩ => by
  have := WA.uniq h1 k1;subst this;rw [h2] at k2;cases k2;unfold wNext at h3 k3;omega
theorem WA.back {ts : List TermL} : ∀ {j i : Nat} {a : Int}, i ≤ j → WA ts j a → ∃ b, WA ts i b
 | 0, i, a, hi, h => by
  obtain rfl : i = 0 := by omega
  exact ⟨a, h⟩
 | j + 1, i, a, hi, h => by
  by_cases e : i = j + 1
  ·subst e; exact ⟨a, h⟩
  ·obtain ⟨n, t, h1, -⟩ := h;exact h1.back (by omega)
theorem WA.next {ts : List TermL} {i : Nat} {n n' : Int} {t : TermL} (h : WA ts i n) (ht : ts[i]? = some t) (k : wNext n t n') : WA ts (i + 1) n' := ⟨n, t, h, ht, k⟩
open Classical in
theorem whole_no {ts : List TermL} {i : Nat} {n : Int} {t : TermL} (h : WA ts i n) (ht : ts[i]? = some t) (k : ∀ n', ¬ wNext n t n') : wholeN ts = false := by
 refine decide_eq_false fun hw => ?_;have hi := (ges.1 ht).1;obtain ⟨b, n0, t0, h1, h2, h3⟩ := hw.back (i := i + 1) hi;rw [h2] at ht;cases ht;rw [h1.uniq h] at h3;exact k b h3
open Classical in
theorem whole_fin {ts : List TermL} {n : Int} (h : WA ts ts.length n) : wholeN ts = (n == 1) := by
 rw [Bool.eq_iff_iff, beq_iff_eq];unfold wholeN;rw [dtt];exact ⟨fun k => h.uniq k, fun e => e ▸ h⟩
def fitK (k tl el e : Int) : Prop := (k = 1 ∧ tl = 1 ∧ e = 1 ∧ el = 1) ∨ (k = 2 ∧ tl = 0 ∧ el = 2) ∨ (k = 3 ∧ tl = 0 ∧ el = 1) ∨ k = 4 ∨ ((k = 5 ∨ k = 7) ∧ tl = 0 ∧ e = 1 ∧ el = 1) ∨ ((k = 6 ∨ k = 8) ∧ tl = 0 ∧ e = 1 ∧ el = 0) ∨ (k = 9 ∧ tl = 0 ∧ e = 1)
instance (k tl el e : Int) : Decidable (fitK k tl el e) := by unfold fitK; infer_instance
noncomputable def fitsN (x : StmtL) : Bool := x.exprs.all wholeN && decide (fitK x.kind x.targets.length x.exprs.length (empI x.name))
theorem fe {v : Bool} {p : Prop} [Decidable p] (h : v = decide p := by rw [Bool.eq_iff_iff, dtt]; first | (rw [empI_iff]; unfold fitK; omega) | (simp only [dtt, beq_iff_eq, Bool.false_eq_true, true_iff, false_iff]; unfold fitK; omega)) : AV.bool v = AV.bool (decide p) := by rw [h]
theorem fits_no {x : StmtL} {i : Nat} {ts : List TermL} (h : x.exprs[i]? = some ts) (k : wholeN ts = false) : fitsN x = false := by
 have : x.exprs.all wholeN = false := by
  rw [List.all_eq_false];exact ⟨ts, mog h, by rw [k]; simp⟩
 rw [fitsN, this]; rfl
theorem fits_fin {x : StmtL} (h : ∀ (i : Nat) (ts : List TermL), x.exprs[i]? = some ts → wholeN ts = true) : fitsN x = decide (fitK x.kind x.targets.length x.exprs.length (empI x.name)) := by
 have : x.exprs.all wholeN = true := by
  rw [aet];intro ts hm;obtain ⟨i, hi⟩ := List.getElem?_of_mem hm;exact h i ts hi
 rw [fitsN, this]; rfl
theorem whole_ok {s : St} {v : AV} {ts : List TermL} (hok : s.Ok) (hl : ts.length ≤ 2097152) (hv : RowP 3 v (ts.map tC)) :
  CallS Try.prog Tt Kt 139 [v] s fun r s' => Keep [] s s' ∧ r = .bool (wholeN ts) := by
 refine cof 88 Try.func139 ?_;refine aq0 ?_;have hS := SH.start hok;have hK := hS.K;refine aq3 ?_;refine wvz (op_len rfl rfl rfl rfl rfl (RowP.slen hv |>.trans (by rw [lmm]))) ?_;refine aq1 ?_;refine wc_loop_at (fun jj m z => ∃ (i : Nat) (n : Int), jj = ts.length - i ∧ i ≤ ts.length ∧ m = [(3, .int .i64 n), (7, v), (8, .int .i64 (ts.length : Nat)), (9, .int .i64 (i : Nat))] ∧ Keep [] s z ∧ WA ts i n ∧ 0 ≤ n ∧ n ≤ i) ts.length
  [(3, .int .i64 0), (7, v), (8, .int .i64 (ts.length : Nat)), (9, .int .i64 ((0 : Nat) : Int))] (scn rfl (scn rfl (scn rfl (scn rfl (Sub.nil _))))) ⟨0, 0, by simp, by simp, rfl, hK, rfl, by omega, by omega⟩ ?_
 clear hS hK;rintro jj m z ⟨i, n, rfl, hi, rfl, hK, hW, hn0, hn1⟩;have hS := SH.of hK;refine aq1 ?_;refine wcd (fun h10 => ?_) (fun h10 => ?_)
 ·refine aq0 ?_;obtain ⟨t, ht⟩ : ∃ t, ts[i]? = some t := ⟨_, gee (by omega)⟩;have hE01 := empI_01 t.name;refine aq0 ?_;refine wvz (oJ (RowP.up hv _)) ?_;refine wvz (oM (Row.mk_pt (RowP.up hv z.h) ht)) ?_;refine ws_alloc hS rfl rfl rfl rfl ?_;rintro p0 z hS hk;have hS : SH _ [_] z := hS;refine ws_store 0 hS rfl rfl rfl rfl rfl rfl (by rfl) (nl rfl) ?_;rintro z hS;have hS : SH _ [_] z := hS;have hK := hS.K;refine aq2 ?_;refine wvz (oL 0 hS) ?_;refine aq2 ?_;refine wcb (fun h15 => ?_) (fun h15 => ?_)
  ·refine aq1 ?_;refine wvz (oL 0 hS) ?_;refine aq2 ?_;refine w_split (i := 20) rfl (fun h20 => ?_) (fun h20 => ?_)
   ·(simp only [dtt, ge_iff_le] at h20)
    refine aq1 ?_;refine wvz (oL 0 hS) ?_;refine aq4 ?_;refine wad ?_;refine aq3 ?_;refine wc_condT rfl (fun h84 => ?_) (fun h84 => ?_)
    ·(have hE := empI_nt h84)
     refine aq1 ?_;exact ⟨_, rfl, hK, by rw [whole_no hW ht (by intro n' h; unfold wNext at h; omega)]; rfl⟩
    (have hE := empI_nf h84)
    refine aq0 ?_;refine wad ?_;refine aq1 ?_;exact rn ⟨i + 1, n + 1, rfl, by omega, rfl, hK, hW.next ht (by unfold wNext; omega), by omega, by omega⟩
   (simp only [dff, ge_iff_le] at h20)
   refine aq6 ?_;refine wad ?_;refine aq3 ?_;refine wc_cond_t rfl ?_;refine aq1 ?_;exact ⟨_, rfl, hK, by rw [whole_no hW ht (by intro n' h; unfold wNext at h; omega)]; rfl⟩
  refine aq2 ?_;refine wcb (fun h27 => ?_) (fun h27 => ?_)
  ·refine aq1 ?_;refine wvz (oL 0 hS) ?_;refine aq3 ?_;refine wad ?_;refine aq3 ?_;refine wc_condT rfl (fun h84 => ?_) (fun h84 => ?_)
   ·(simp only [bff, ne_eq, Bool.not_eq_true'] at h84)
    refine aq1 ?_;exact ⟨_, rfl, hK, by rw [whole_no hW ht (by intro n' h; unfold wNext at h; omega)]; rfl⟩
   (simp only [beq_iff_eq, Bool.not_eq_false'] at h84)
   refine aq0 ?_;refine wad ?_;refine aq1 ?_;exact rn ⟨i + 1, n + 1, rfl, by omega, rfl, hK, hW.next ht (by unfold wNext; omega), by omega, by omega⟩
  refine aq2 ?_;refine wcb (fun h34 => ?_) (fun h34 => ?_)
  ·refine aq3 ?_;refine w_split (i := 38) rfl (fun h38 => ?_) (fun h38 => ?_)
   ·(simp only [dtt, ge_iff_le] at h38)
    refine aq1 ?_;refine wvz (oL 0 hS) ?_;refine aq5 ?_;refine wc_condT rfl (fun h84 => ?_) (fun h84 => ?_)
    ·(simp only [bff, ne_eq, Bool.not_eq_true'] at h84)
     refine aq1 ?_;exact ⟨_, rfl, hK, by rw [whole_no hW ht (by intro n' h; unfold wNext at h; omega)]; rfl⟩
    (simp only [beq_iff_eq, Bool.not_eq_false'] at h84)
    refine aq0 ?_;refine wad ?_;refine aq1 ?_;exact rn ⟨i + 1, n, rfl, by omega, rfl, hK, hW.next ht (by unfold wNext; omega), by omega, by omega⟩
   (simp only [dff, ge_iff_le] at h38)
   refine aq7 ?_;refine wc_cond_t rfl ?_;refine aq1 ?_;exact ⟨_, rfl, hK, by rw [whole_no hW ht (by intro n' h; unfold wNext at h; omega)]; rfl⟩
  refine aq2 ?_;refine wcb (fun h43 => ?_) (fun h43 => ?_)
  ·refine aq3 ?_;refine w_split (i := 47) rfl (fun h47 => ?_) (fun h47 => ?_)
   ·(simp only [dtt, ge_iff_le] at h47)
    refine aq1 ?_;refine wvz (oL 0 hS) ?_;refine aq3 ?_;refine w_split (i := 52) rfl (fun h52 => ?_) (fun h52 => ?_)
    ·(have hE := empI_t h52)
     refine aq1 ?_;refine wvz (oL 0 hS) ?_;refine aq3 ?_;refine w_split (i := 57) rfl (fun h57 => ?_) (fun h57 => ?_)
     ·(simp only [dtt, ge_iff_le] at h57)
      refine aq1 ?_;refine wvz (oL 0 hS) ?_;refine aq5 ?_;refine wc_condT rfl (fun h84 => ?_) (fun h84 => ?_)
      ·(simp only [dff, Bool.not_eq_true'] at h84)
       refine aq1 ?_;exact ⟨_, rfl, hK, by rw [whole_no hW ht (by intro n' h; unfold wNext at h; omega)]; rfl⟩
      (simp only [dtt, Bool.not_eq_false'] at h84)
      refine aq0 ?_;refine wad ?_;refine aq1 ?_;exact rn ⟨i + 1, n, rfl, by omega, rfl, hK, hW.next ht (by unfold wNext; omega), by omega, by omega⟩
     (simp only [dff, ge_iff_le] at h57)
     refine aq7 ?_;refine wc_cond_t rfl ?_;refine aq1 ?_;exact ⟨_, rfl, hK, by rw [whole_no hW ht (by intro n' h; unfold wNext at h; omega)]; rfl⟩
    (have hE := empI_f h52)
    refine aq12 ?_;refine wc_cond_t rfl ?_;refine aq1 ?_;exact ⟨_, rfl, hK, by rw [whole_no hW ht (by intro n' h; unfold wNext at h; omega)]; rfl⟩
   (simp only [dff, ge_iff_le] at h47)
   refine aq12 ?_;refine aq5 ?_;refine wc_cond_t rfl ?_;refine aq1 ?_;exact ⟨_, rfl, hK, by rw [whole_no hW ht (by intro n' h; unfold wNext at h; omega)]; rfl⟩
  refine aq2 ?_;refine wcb (fun h62 => ?_) (fun h62 => ?_)
  ·refine aq3 ?_;refine w_split (i := 66) rfl (fun h66 => ?_) (fun h66 => ?_)
   ·(simp only [dtt, ge_iff_le] at h66)
    refine aq1 ?_;refine wvz (oL 0 hS) ?_;refine aq3 ?_;refine w_split (i := 71) rfl (fun h71 => ?_) (fun h71 => ?_)
    ·(have hE := empI_t h71)
     refine aq1 ?_;refine wvz (oL 0 hS) ?_;refine aq3 ?_;refine w_split (i := 76) rfl (fun h76 => ?_) (fun h76 => ?_)
     ·(simp only [dtt, ge_iff_le] at h76)
      refine aq1 ?_;refine wvz (oL 0 hS) ?_;refine aq4 ?_;refine wvz (op_sub rfl rfl (by unfold In64; omega)) ?_;refine aq3 ?_;refine wc_condT rfl (fun h84 => ?_) (fun h84 => ?_)
      ·(simp only [dff, Bool.not_eq_true'] at h84)
       refine aq1 ?_;exact ⟨_, rfl, hK, by rw [whole_no hW ht (by intro n' h; unfold wNext at h; omega)]; rfl⟩
      (simp only [dtt, Bool.not_eq_false'] at h84)
      refine aq0 ?_;refine wad ?_;refine aq1 ?_;exact rn ⟨i + 1, n - 1, rfl, by omega, rfl, hK, hW.next ht (by unfold wNext; omega), by omega, by omega⟩
     (simp only [dff, ge_iff_le] at h76)
     refine aq6 ?_;refine wvz (op_sub rfl rfl (by unfold In64; omega)) ?_;refine aq3 ?_;refine wc_cond_t rfl ?_;refine aq1 ?_;exact ⟨_, rfl, hK, by rw [whole_no hW ht (by intro n' h; unfold wNext at h; omega)]; rfl⟩
    (have hE := empI_f h71)
    refine aq11 ?_;refine wvz (op_sub rfl rfl (by unfold In64; omega)) ?_;refine aq3 ?_;refine wc_cond_t rfl ?_;refine aq1 ?_;exact ⟨_, rfl, hK, by rw [whole_no hW ht (by intro n' h; unfold wNext at h; omega)]; rfl⟩
   (simp only [dff, ge_iff_le] at h66)
   refine aq12 ?_;refine aq4 ?_;refine wvz (op_sub rfl rfl (by unfold In64; omega)) ?_;refine aq3 ?_;refine wc_cond_t rfl ?_;refine aq1 ?_;exact ⟨_, rfl, hK, by rw [whole_no hW ht (by intro n' h; unfold wNext at h; omega)]; rfl⟩
  refine aq2 ?_;refine wc_cond_t rfl ?_;refine aq1 ?_;exact ⟨_, rfl, hK, by rw [whole_no hW ht (by intro n' h; unfold wNext at h; omega)]; rfl⟩
 obtain rfl : i = ts.length := by omega
 refine aq3 ?_;exact ⟨_, rfl, hK, by rw [whole_fin hW]; rfl⟩
theorem whole_ref_ok {s : St} {v : AV} {ts : List TermL} (hok : s.Ok) (hl : ts.length ≤ 2097152) (hv : RowP 3 v (ts.map tC)) :
  CallS Try.prog Tt Kt 143 [v] s fun r s' => Keep [] s s' ∧ r = .bool (wholeN ts) := by
 refine cof 88 Try.func143 ?_;refine aq0 ?_;have hS := SH.start hok;have hK := hS.K;refine aq3 ?_;refine wc_loop_at (fun jj m z => ∃ (i : Nat) (n : Int), jj = ts.length - i ∧ i ≤ ts.length ∧ m = [(0, v), (3, .int .i64 n), (4, .int .i64 (i : Nat))] ∧ Keep [] s z ∧ WA ts i n ∧ 0 ≤ n ∧ n ≤ i) ts.length
  [(0, v), (3, .int .i64 0), (4, .int .i64 ((0 : Nat) : Int))] (scn rfl (scn rfl (scn rfl (Sub.nil _)))) ⟨0, 0, by simp, by simp, rfl, hK, rfl, by omega, by omega⟩ ?_
 clear hS hK;rintro jj m z ⟨i, n, rfl, hi, rfl, hK, hW, hn0, hn1⟩;have hS := SH.of hK;refine aq2 ?_;refine wvz (op_len rfl rfl rfl rfl rfl (RowP.slen hv |>.trans (by rw [lmm]))) ?_;refine aq1 ?_;refine wcd (fun h9 => ?_) (fun h9 => ?_)
 ·refine aq0 ?_;obtain ⟨t, ht⟩ : ∃ t, ts[i]? = some t := ⟨_, gee (by omega)⟩;have hE01 := empI_01 t.name;refine aq2 ?_;refine wvz (oJ (RowP.up hv _)) ?_;refine wvz (oM (Row.mk_pt (RowP.up hv z.h) ht)) ?_;refine ws_alloc hS rfl rfl rfl rfl ?_;rintro p0 z hS hk;have hS : SH _ [_] z := hS;refine ws_store 0 hS rfl rfl rfl rfl rfl rfl (by rfl) (nl rfl) ?_;rintro z hS;have hS : SH _ [_] z := hS;have hK := hS.K;refine aq1 ?_;refine wvz (oL 0 hS) ?_;refine aq2 ?_;refine wc_condT rfl (fun h18 => ?_) (fun h18 => ?_)
  ·(simp only [beq_iff_eq] at h18)
   refine aq1 ?_;refine wvz (oL 0 hS) ?_;refine aq2 ?_;refine w_split (i := 23) rfl (fun h23 => ?_) (fun h23 => ?_)
   ·(simp only [dtt] at h23)
    refine aq4 ?_;refine wc_cond_t rfl ?_;refine aq1 ?_;exact ⟨_, rfl, hK, by rw [whole_no hW ht (by intro n' h; unfold wNext at h; omega)]; rfl⟩
   (simp only [dff] at h23)
   refine aq1 ?_;refine wvz (oL 0 hS) ?_;refine aq2 ?_;refine wc_condT rfl (fun h27 => ?_) (fun h27 => ?_)
   ·(have hE := empI_nt h27)
    refine aq1 ?_;exact ⟨_, rfl, hK, by rw [whole_no hW ht (by intro n' h; unfold wNext at h; omega)]; rfl⟩
   (have hE := empI_nf h27)
   refine aq1 ?_;refine wad ?_;refine aq2 ?_;refine wad ?_;refine aq1 ?_;exact rn ⟨i + 1, n + 1, rfl, by omega, rfl, hK, hW.next ht (by unfold wNext; omega), by omega, by omega⟩
  (simp only [bff, ne_eq] at h18)
  refine aq2 ?_;refine wc_condT rfl (fun h30 => ?_) (fun h30 => ?_)
  ·(simp only [beq_iff_eq] at h30)
   refine aq1 ?_;refine wvz (oL 0 hS) ?_;refine aq1 ?_;refine wc_condT rfl (fun h34 => ?_) (fun h34 => ?_)
   ·(simp only [ne_eq, bne_iff_ne] at h34)
    refine aq1 ?_;exact ⟨_, rfl, hK, by rw [whole_no hW ht (by intro n' h; unfold wNext at h; omega)]; rfl⟩
   (simp only [bne_eq_false_iff_eq] at h34)
   refine aq1 ?_;refine wad ?_;refine aq2 ?_;refine wad ?_;refine aq1 ?_;exact rn ⟨i + 1, n + 1, rfl, by omega, rfl, hK, hW.next ht (by unfold wNext; omega), by omega, by omega⟩
  (simp only [bff, ne_eq] at h30)
  refine aq2 ?_;refine wc_condT rfl (fun h37 => ?_) (fun h37 => ?_)
  ·(simp only [beq_iff_eq] at h37)
   refine aq1 ?_;refine wvz (oL 0 hS) ?_;refine aq2 ?_;refine w_split (i := 42) rfl (fun h42 => ?_) (fun h42 => ?_)
   ·(simp only [ne_eq, bne_iff_ne] at h42)
    refine aq3 ?_;refine wc_cond_t rfl ?_;refine aq1 ?_;exact ⟨_, rfl, hK, by rw [whole_no hW ht (by intro n' h; unfold wNext at h; omega)]; rfl⟩
   (simp only [bne_eq_false_iff_eq] at h42)
   refine aq3 ?_;refine wc_condT rfl (fun h45 => ?_) (fun h45 => ?_)
   ·(simp only [beq_iff_eq] at h45)
    refine aq1 ?_;exact ⟨_, rfl, hK, by rw [whole_no hW ht (by intro n' h; unfold wNext at h; omega)]; rfl⟩
   (simp only [bff, ne_eq] at h45)
   refine aq1 ?_;refine wad ?_;refine aq1 ?_;exact rn ⟨i + 1, n, rfl, by omega, rfl, hK, hW.next ht (by unfold wNext; omega), by omega, by omega⟩
  (simp only [bff, ne_eq] at h37)
  refine aq2 ?_;refine wc_condT rfl (fun h46 => ?_) (fun h46 => ?_)
  ·(simp only [beq_iff_eq] at h46)
   refine aq1 ?_;refine wvz (oL 0 hS) ?_;refine aq2 ?_;refine w_split (i := 51) rfl (fun h51 => ?_) (fun h51 => ?_)
   ·(have hE := empI_nt h51)
    refine aq12 ?_;refine aq1 ?_;refine wc_cond_t rfl ?_;refine aq1 ?_;exact ⟨_, rfl, hK, by rw [whole_no hW ht (by intro n' h; unfold wNext at h; omega)]; rfl⟩
   (have hE := empI_nf h51)
   refine aq1 ?_;refine wvz (oL 0 hS) ?_;refine aq3 ?_;refine w_split (i := 56) rfl (fun h56 => ?_) (fun h56 => ?_)
   ·(simp only [dtt] at h56)
    refine aq8 ?_;refine wc_cond_t rfl ?_;refine aq1 ?_;exact ⟨_, rfl, hK, by rw [whole_no hW ht (by intro n' h; unfold wNext at h; omega)]; rfl⟩
   (simp only [dff] at h56)
   refine aq1 ?_;refine wvz (oL 0 hS) ?_;refine aq3 ?_;refine w_split (i := 61) rfl (fun h61 => ?_) (fun h61 => ?_)
   ·(simp only [dtt, gt_iff_lt] at h61)
    refine aq3 ?_;refine wc_cond_t rfl ?_;refine aq1 ?_;exact ⟨_, rfl, hK, by rw [whole_no hW ht (by intro n' h; unfold wNext at h; omega)]; rfl⟩
   (simp only [dff, gt_iff_lt] at h61)
   refine aq3 ?_;refine wc_condT rfl (fun h64 => ?_) (fun h64 => ?_)
   ·(simp only [beq_iff_eq] at h64)
    refine aq1 ?_;exact ⟨_, rfl, hK, by rw [whole_no hW ht (by intro n' h; unfold wNext at h; omega)]; rfl⟩
   (simp only [bff, ne_eq] at h64)
   refine aq1 ?_;refine wad ?_;refine aq1 ?_;exact rn ⟨i + 1, n, rfl, by omega, rfl, hK, hW.next ht (by unfold wNext; omega), by omega, by omega⟩
  (simp only [bff, ne_eq] at h46)
  refine aq2 ?_;refine wc_condT rfl (fun h65 => ?_) (fun h65 => ?_)
  ·(simp only [beq_iff_eq] at h65)
   refine aq1 ?_;refine wvz (oL 0 hS) ?_;refine aq2 ?_;refine w_split (i := 70) rfl (fun h70 => ?_) (fun h70 => ?_)
   ·(have hE := empI_nt h70)
    refine aq12 ?_;refine aq1 ?_;refine wc_cond_t rfl ?_;refine aq1 ?_;exact ⟨_, rfl, hK, by rw [whole_no hW ht (by intro n' h; unfold wNext at h; omega)]; rfl⟩
   (have hE := empI_nf h70)
   refine aq1 ?_;refine wvz (oL 0 hS) ?_;refine aq3 ?_;refine w_split (i := 75) rfl (fun h75 => ?_) (fun h75 => ?_)
   ·(simp only [dtt] at h75)
    refine aq8 ?_;refine wc_cond_t rfl ?_;refine aq1 ?_;exact ⟨_, rfl, hK, by rw [whole_no hW ht (by intro n' h; unfold wNext at h; omega)]; rfl⟩
   (simp only [dff] at h75)
   refine aq1 ?_;refine wvz (oL 0 hS) ?_;refine aq3 ?_;refine w_split (i := 80) rfl (fun h80 => ?_) (fun h80 => ?_)
   ·(simp only [dtt, gt_iff_lt] at h80)
    refine aq3 ?_;refine wc_cond_t rfl ?_;refine aq1 ?_;exact ⟨_, rfl, hK, by rw [whole_no hW ht (by intro n' h; unfold wNext at h; omega)]; rfl⟩
   (simp only [dff, gt_iff_lt] at h80)
   refine aq3 ?_;refine wc_condT rfl (fun h83 => ?_) (fun h83 => ?_)
   ·(simp only [dtt] at h83)
    refine aq1 ?_;exact ⟨_, rfl, hK, by rw [whole_no hW ht (by intro n' h; unfold wNext at h; omega)]; rfl⟩
   (simp only [dff] at h83)
   refine aq1 ?_;refine wvz (op_sub rfl rfl (by unfold In64; omega)) ?_;refine aq2 ?_;refine wad ?_;refine aq1 ?_;exact rn ⟨i + 1, n - 1, rfl, by omega, rfl, hK, hW.next ht (by unfold wNext; omega), by omega, by omega⟩
  (simp only [bff, ne_eq] at h65)
  refine aq1 ?_;exact ⟨_, rfl, hK, by rw [whole_no hW ht (by intro n' h; unfold wNext at h; omega)]; rfl⟩
 obtain rfl : i = ts.length := by omega
 refine aq3 ?_;exact ⟨_, rfl, hK, by rw [whole_fin hW]; rfl⟩
theorem fits_ok {s : St} {c : List AV} {x : StmtL} (hok : s.Ok) (hx : x.small) (hv : StmtR .leaf x c) :
  CallS Try.prog Tt Kt 108 [.agg c] s fun r s' => Keep [] s s' ∧ r = .bool (fitsN x) := by
 obtain ⟨vt, ve, rfl, hvt, hve⟩ := hv;obtain ⟨hx1, hx2, hx3⟩ := hx;have hz : ([.int .i64 x.kind, .str x.name, vt, ve] : List AV).all AV.leaf = true := by
  obtain ⟨css, h5, -⟩ := id hve;simp only [List.all_cons, List.all_nil, hvt.leaf, h5.leaf]; rfl
 obtain ⟨cse, hre, hle, hE⟩ := hve;have hse : ve.slen = some x.exprs.length := by rw [hre.slen, hle]
 have hst : vt.slen = some x.targets.length := by rw [hvt.slen, lmm]
 have hE01 := empI_01 x.name;refine cof 92 Try.func108 ?_;refine aq0 ?_;have hS := SH.start hok;refine aq0 ?_;refine ws_box hS rfl rfl rfl hz ?_;rintro p0 z hS hk;have hS : SH _ [_] z := hS;have hK := hS.K;refine aq2 ?_;refine wvz (oL 0 hS) ?_;refine wvz (oN hse) ?_;refine aq1 ?_;refine wc_loop_at (fun jj m z => ∃ i : Nat, jj = x.exprs.length - i ∧ i ≤ x.exprs.length ∧ m = [(0, .agg [.int .i64 x.kind, .str x.name, vt, ve]), (1, .ptr p0 0 0), (8, ve), (9, .int .i64 (x.exprs.length : Nat)), (10, .int .i64 (i : Nat))] ∧ SH s [ptC (.ptr p0 0 0) [.int .i64 x.kind, .str x.name, vt, ve]] z ∧ ∀ (j : Nat) (ts : List TermL), j < i → x.exprs[j]? = some ts → wholeN ts = true) x.exprs.length
  [(0, .agg [.int .i64 x.kind, .str x.name, vt, ve]), (1, .ptr p0 0 0), (8, ve), (9, .int .i64 (x.exprs.length : Nat)), (10, .int .i64 ((0 : Nat) : Int))] (scn rfl (scn rfl (scn rfl (scn rfl (scn rfl (Sub.nil _)))))) ⟨0, by simp, by simp, rfl, hS, fun j ts h => by omega⟩ ?_
 clear hS hK;rintro jj m z ⟨i, rfl, hi, rfl, hS, hq⟩;have hK := hS.K;refine aq1 ?_;refine wcd (fun h11 => ?_) (fun h11 => ?_)
 ·refine aq0 ?_;obtain ⟨ts, hts⟩ : ∃ ts, x.exprs[i]? = some ts := ⟨_, gee (by omega)⟩;obtain ⟨ce, hce⟩ : ∃ c, cse[i]? = some c := ⟨_, gee (by omega)⟩;obtain ⟨et, rfl, het⟩ := hE i ts ce hts hce;have htl := hx3 ts (mog hts);refine aq0 ?_;refine wvz (oI (RowP.up hre _)) ?_;refine wvz (oM (Row.pt (RowP.up hre z.h) hce)) ?_;refine aq2 ?_;refine wkz (whole_ok hK.ok htl het) ?_;rintro _ z ⟨hk, rfl⟩;have hS := hS.mov hk;have hK := hS.K;refine aq1 ?_;refine wc_condT rfl (fun h16 => ?_) (fun h16 => ?_)
  ·have hw : wholeN ts = false := by simpa only [Bool.not_eq_true'] using h16
   refine aq1 ?_;exact ⟨_, rfl, hK, by rw [fits_no hts hw]; rfl⟩
  have hw : wholeN ts = true := by simpa only [Bool.not_eq_false'] using h16
  refine aq0 ?_;refine wad ?_;refine aq1 ?_;exact rn ⟨i + 1, rfl, by omega, rfl, hS, fun j ts' hj hjt => (lsl.1 hj).elim (fun h => hq j ts' h hjt) fun e => by subst e; rw [hts] at hjt; cases hjt; exact hw⟩
 obtain rfl : i = x.exprs.length := by omega
 have hall : ∀ (j : Nat) (ts : List TermL), x.exprs[j]? = some ts → wholeN ts = true := fun j ts h => hq j ts (ges.1 h).1 h;clear hq;refine aq0 ?_;refine wc_draw (fun _ => True) (by kernel_rfl) rfl ?_;refine wdv (op_fldP rfl rfl rfl rfl (by decide)) ?_;refine wdv (oM (Pt.bare ((hS.pt 0 rfl).at (nl rfl)))) ?_;refine wdv (oN hst) ?_;refine aq1 ?_;refine wdv (op_fldP rfl rfl rfl rfl (by decide)) ?_;refine wdv (oM (Pt.bare ((hS.pt 0 rfl).at (nl rfl)))) ?_;refine wdv (oN hse) ?_;refine aq3 ?_;refine wvz (oL 0 hS) ?_;refine aq2 ?_;refine wc_condT rfl (fun h27 => ?_) (fun h27 => ?_)
 ·(simp only [beq_iff_eq] at h27)
  refine aq1 ?_;refine wvz (oL 0 hS) ?_;refine wvz (oN hst) ?_;refine aq2 ?_;refine w_split (i := 33) rfl (fun h33 => ?_) (fun h33 => ?_)
  ·(simp only [beq_iff_eq] at h33)
   refine aq1 ?_;refine wvz (oL 0 hS) ?_;refine aq3 ?_;refine w_split (i := 38) rfl (fun h38 => ?_) (fun h38 => ?_)
   ·(have hE := empI_t h38)
    refine aq4 ?_
    (rw [fits_fin hall]; exact ⟨_, rfl, hK, fe⟩)
   (have hE := empI_f h38)
   refine aq4 ?_
   (rw [fits_fin hall]; exact ⟨_, rfl, hK, fe⟩)
  (simp only [bff, ne_eq] at h33)
  refine aq9 ?_
  (rw [fits_fin hall]; exact ⟨_, rfl, hK, fe⟩)
 (simp only [bff, ne_eq] at h27)
 refine aq2 ?_;refine wc_condT rfl (fun h42 => ?_) (fun h42 => ?_)
 ·(simp only [beq_iff_eq] at h42)
  refine aq2 ?_;refine w_split (i := 45) rfl (fun h45 => ?_) (fun h45 => ?_)
  ·(simp only [beq_iff_eq] at h45)
   refine aq4 ?_
   (rw [fits_fin hall]; exact ⟨_, rfl, hK, fe⟩)
  (simp only [bff, ne_eq] at h45)
  refine aq4 ?_
  (rw [fits_fin hall]; exact ⟨_, rfl, hK, fe⟩)
 (simp only [bff, ne_eq] at h42)
 refine aq2 ?_;refine wc_condT rfl (fun h49 => ?_) (fun h49 => ?_)
 ·(simp only [beq_iff_eq] at h49)
  refine aq2 ?_;refine w_split (i := 52) rfl (fun h52 => ?_) (fun h52 => ?_)
  ·(simp only [beq_iff_eq] at h52)
   refine aq4 ?_
   (rw [fits_fin hall]; exact ⟨_, rfl, hK, fe⟩)
  (simp only [bff, ne_eq] at h52)
  refine aq4 ?_
  (rw [fits_fin hall]; exact ⟨_, rfl, hK, fe⟩)
 (simp only [bff, ne_eq] at h49)
 refine aq2 ?_;refine wc_condT rfl (fun h56 => ?_) (fun h56 => ?_)
 ·(simp only [beq_iff_eq] at h56)
  refine aq1 ?_
  (rw [fits_fin hall]; exact ⟨_, rfl, hK, fe⟩)
 (simp only [bff, ne_eq] at h56)
 refine aq2 ?_;refine wc_condT rfl (fun h58 => ?_) (fun h58 => ?_)
 ·(simp only [beq_iff_eq] at h58)
  refine aq0 ?_;refine wc_cond_t rfl ?_;refine aq2 ?_;refine w_split (i := 62) rfl (fun h62 => ?_) (fun h62 => ?_)
  ·(simp only [beq_iff_eq] at h62)
   refine aq1 ?_;refine wvz (oL 0 hS) ?_;refine aq3 ?_;refine w_split (i := 67) rfl (fun h67 => ?_) (fun h67 => ?_)
   ·(have hE := empI_t h67)
    refine aq4 ?_
    (rw [fits_fin hall]; exact ⟨_, rfl, hK, fe⟩)
   (have hE := empI_f h67)
   refine aq4 ?_
   (rw [fits_fin hall]; exact ⟨_, rfl, hK, fe⟩)
  (simp only [bff, ne_eq] at h62)
  refine aq9 ?_
  (rw [fits_fin hall]; exact ⟨_, rfl, hK, fe⟩)
 (simp only [bff, ne_eq] at h58)
 refine aq2 ?_;refine wc_condT rfl (fun h58 => ?_) (fun h58 => ?_)
 ·(simp only [beq_iff_eq] at h58)
  refine aq2 ?_;refine w_split (i := 62) rfl (fun h62 => ?_) (fun h62 => ?_)
  ·(simp only [beq_iff_eq] at h62)
   refine aq1 ?_;refine wvz (oL 0 hS) ?_;refine aq3 ?_;refine w_split (i := 67) rfl (fun h67 => ?_) (fun h67 => ?_)
   ·(have hE := empI_t h67)
    refine aq4 ?_
    (rw [fits_fin hall]; exact ⟨_, rfl, hK, fe⟩)
   (have hE := empI_f h67)
   refine aq4 ?_
   (rw [fits_fin hall]; exact ⟨_, rfl, hK, fe⟩)
  (simp only [bff, ne_eq] at h62)
  refine aq9 ?_
  (rw [fits_fin hall]; exact ⟨_, rfl, hK, fe⟩)
 (simp only [bff, ne_eq] at h58)
 refine aq2 ?_;refine wc_condT rfl (fun h71 => ?_) (fun h71 => ?_)
 ·(simp only [beq_iff_eq] at h71)
  refine aq0 ?_;refine wc_cond_t rfl ?_;refine aq2 ?_;refine w_split (i := 75) rfl (fun h75 => ?_) (fun h75 => ?_)
  ·(simp only [beq_iff_eq] at h75)
   refine aq1 ?_;refine wvz (oL 0 hS) ?_;refine aq3 ?_;refine w_split (i := 80) rfl (fun h80 => ?_) (fun h80 => ?_)
   ·(have hE := empI_t h80)
    refine aq4 ?_
    (rw [fits_fin hall]; exact ⟨_, rfl, hK, fe⟩)
   (have hE := empI_f h80)
   refine aq4 ?_
   (rw [fits_fin hall]; exact ⟨_, rfl, hK, fe⟩)
  (simp only [bff, ne_eq] at h75)
  refine aq9 ?_
  (rw [fits_fin hall]; exact ⟨_, rfl, hK, fe⟩)
 (simp only [bff, ne_eq] at h71)
 refine aq2 ?_;refine wc_condT rfl (fun h71 => ?_) (fun h71 => ?_)
 ·(simp only [beq_iff_eq] at h71)
  refine aq2 ?_;refine w_split (i := 75) rfl (fun h75 => ?_) (fun h75 => ?_)
  ·(simp only [beq_iff_eq] at h75)
   refine aq1 ?_;refine wvz (oL 0 hS) ?_;refine aq3 ?_;refine w_split (i := 80) rfl (fun h80 => ?_) (fun h80 => ?_)
   ·(have hE := empI_t h80)
    refine aq4 ?_
    (rw [fits_fin hall]; exact ⟨_, rfl, hK, fe⟩)
   (have hE := empI_f h80)
   refine aq4 ?_
   (rw [fits_fin hall]; exact ⟨_, rfl, hK, fe⟩)
  (simp only [bff, ne_eq] at h75)
  refine aq9 ?_
  (rw [fits_fin hall]; exact ⟨_, rfl, hK, fe⟩)
 (simp only [bff, ne_eq] at h71)
 refine aq2 ?_;refine wc_condT rfl (fun h84 => ?_) (fun h84 => ?_)
 ·(simp only [beq_iff_eq] at h84)
  refine aq2 ?_;refine w_split (i := 87) rfl (fun h87 => ?_) (fun h87 => ?_)
  ·(simp only [beq_iff_eq] at h87)
   refine aq1 ?_;refine wvz (oL 0 hS) ?_;refine aq3 ?_
   (rw [fits_fin hall]; exact ⟨_, rfl, hK, fe⟩)
  (simp only [bff, ne_eq] at h87)
  refine aq5 ?_
  (rw [fits_fin hall]; exact ⟨_, rfl, hK, fe⟩)
 (simp only [bff, ne_eq] at h84)
 refine aq1 ?_
 (rw [fits_fin hall]; exact ⟨_, rfl, hK, fe⟩)
theorem fits_ref_ok {s : St} {c : List AV} {x : StmtL} (hok : s.Ok) (hx : x.small) (hv : StmtR .leaf x c) :
  CallS Try.prog Tt Kt 118 [.agg c] s fun r s' => Keep [] s s' ∧ r = .bool (fitsN x) := by
 obtain ⟨vt, ve, rfl, hvt, hve⟩ := hv;obtain ⟨hx1, hx2, hx3⟩ := hx;have hz : ([.int .i64 x.kind, .str x.name, vt, ve] : List AV).all AV.leaf = true := by
  obtain ⟨css, h5, -⟩ := id hve;simp only [List.all_cons, List.all_nil, hvt.leaf, h5.leaf]; rfl
 obtain ⟨cse, hre, hle, hE⟩ := hve;have hse : ve.slen = some x.exprs.length := by rw [hre.slen, hle]
 have hst : vt.slen = some x.targets.length := by rw [hvt.slen, lmm]
 have hE01 := empI_01 x.name;refine cof 63 Try.func118 ?_;refine aq0 ?_;have hS := SH.start hok;refine aq0 ?_;refine ws_box hS rfl rfl rfl hz ?_;rintro p0 z hS hk;have hS : SH _ [_] z := hS;have hK := hS.K;refine aq2 ?_;refine wc_loop_at (fun jj m z => ∃ i : Nat, jj = x.exprs.length - i ∧ i ≤ x.exprs.length ∧ m = [(0, .agg [.int .i64 x.kind, .str x.name, vt, ve]), (1, .ptr p0 0 0), (3, .int .i64 (i : Nat))] ∧ SH s [ptC (.ptr p0 0 0) [.int .i64 x.kind, .str x.name, vt, ve]] z ∧ ∀ (j : Nat) (ts : List TermL), j < i → x.exprs[j]? = some ts → wholeN ts = true) x.exprs.length
  [(0, .agg [.int .i64 x.kind, .str x.name, vt, ve]), (1, .ptr p0 0 0), (3, .int .i64 ((0 : Nat) : Int))] (scn rfl (scn rfl (scn rfl (Sub.nil _)))) ⟨0, by simp, by simp, rfl, hS, fun j ts h => by omega⟩ ?_
 clear hS hK;rintro jj m z ⟨i, rfl, hi, rfl, hS, hq⟩;have hK := hS.K;refine aq2 ?_;refine wvz (oL 0 hS) ?_;refine wvz (oN hse) ?_;refine aq1 ?_;refine wcd (fun h11 => ?_) (fun h11 => ?_)
 ·refine aq0 ?_;obtain ⟨ts, hts⟩ : ∃ ts, x.exprs[i]? = some ts := ⟨_, gee (by omega)⟩;obtain ⟨ce, hce⟩ : ∃ c, cse[i]? = some c := ⟨_, gee (by omega)⟩;obtain ⟨et, rfl, het⟩ := hE i ts ce hts hce;have htl := hx3 ts (mog hts);refine aq1 ?_;refine wvz (oL 0 hS) ?_;refine aq1 ?_;refine wvz (oI (RowP.up hre _)) ?_;refine wvz (oM (Row.pt (RowP.up hre z.h) hce)) ?_;refine wkz (whole_ref_ok hK.ok htl het) ?_;rintro _ z ⟨hk, rfl⟩;have hS := hS.mov hk;have hK := hS.K;refine aq1 ?_;refine wc_condT rfl (fun h20 => ?_) (fun h20 => ?_)
  ·have hw : wholeN ts = false := by simpa only [Bool.not_eq_true'] using h20
   refine aq1 ?_;exact ⟨_, rfl, hK, by rw [fits_no hts hw]; rfl⟩
  have hw : wholeN ts = true := by simpa only [Bool.not_eq_false'] using h20
  refine aq1 ?_;refine wad ?_;refine aq1 ?_;exact rn ⟨i + 1, rfl, by omega, rfl, hS, fun j ts' hj hjt => (lsl.1 hj).elim (fun h => hq j ts' h hjt) fun e => by subst e; rw [hts] at hjt; cases hjt; exact hw⟩
 obtain rfl : i = x.exprs.length := by omega
 have hall : ∀ (j : Nat) (ts : List TermL), x.exprs[j]? = some ts → wholeN ts = true := fun j ts h => hq j ts (ges.1 h).1 h;clear hq;refine aq1 ?_;refine wvz (oL 0 hS) ?_;refine aq1 ?_;refine wc_condT rfl (fun h23 => ?_) (fun h23 => ?_)
 ·(simp only [beq_iff_eq] at h23)
  refine aq1 ?_
  (rw [fits_fin hall]; exact ⟨_, rfl, hK, fe⟩)
 (simp only [bff, ne_eq] at h23)
 refine aq4 ?_;refine wvz (oL 0 hS) ?_;refine aq2 ?_;refine wc_condT rfl (fun h26 => ?_) (fun h26 => ?_)
 ·(simp only [beq_iff_eq] at h26)
  refine aq2 ?_;refine wvz (oL 0 hS) ?_;refine wvz (oN hst) ?_;refine aq3 ?_;refine w_split (i := 48) rfl (fun h48 => ?_) (fun h48 => ?_)
  ·(simp only [beq_iff_eq] at h48)
   refine aq1 ?_;refine wvz (oL 0 hS) ?_;refine wvz (oN hse) ?_;refine aq4 ?_;refine w_split (i := 55) rfl (fun h55 => ?_) (fun h55 => ?_)
   ·(simp only [beq_iff_eq] at h55)
    refine aq3 ?_;refine wvz (oL 0 hS) ?_;refine aq4 ?_
    (rw [fits_fin hall]; exact ⟨_, rfl, hK, fe⟩)
   (simp only [bff, ne_eq] at h55)
   refine aq8 ?_
   (rw [fits_fin hall]; exact ⟨_, rfl, hK, fe⟩)
  (simp only [bff, ne_eq] at h48)
  refine aq12 ?_;refine aq3 ?_
  (rw [fits_fin hall]; exact ⟨_, rfl, hK, fe⟩)
 (simp only [bff, ne_eq] at h26)
 refine aq2 ?_;refine wc_condT rfl (fun h28 => ?_) (fun h28 => ?_)
 ·(simp only [beq_iff_eq] at h28)
  refine aq3 ?_;refine wvz (oL 0 hS) ?_;refine wvz (oN hst) ?_;refine aq3 ?_;refine w_split (i := 48) rfl (fun h48 => ?_) (fun h48 => ?_)
  ·(simp only [beq_iff_eq] at h48)
   refine aq1 ?_;refine wvz (oL 0 hS) ?_;refine wvz (oN hse) ?_;refine aq4 ?_;refine w_split (i := 55) rfl (fun h55 => ?_) (fun h55 => ?_)
   ·(simp only [beq_iff_eq] at h55)
    refine aq8 ?_
    (rw [fits_fin hall]; exact ⟨_, rfl, hK, fe⟩)
   (simp only [bff, ne_eq] at h55)
   refine aq8 ?_
   (rw [fits_fin hall]; exact ⟨_, rfl, hK, fe⟩)
  (simp only [bff, ne_eq] at h48)
  refine aq12 ?_;refine aq3 ?_
  (rw [fits_fin hall]; exact ⟨_, rfl, hK, fe⟩)
 (simp only [bff, ne_eq] at h28)
 refine aq2 ?_;refine wc_condT rfl (fun h30 => ?_) (fun h30 => ?_)
 ·(simp only [beq_iff_eq] at h30)
  refine aq2 ?_;refine wvz (oL 0 hS) ?_;refine wvz (oN hst) ?_;refine aq3 ?_;refine w_split (i := 48) rfl (fun h48 => ?_) (fun h48 => ?_)
  ·(simp only [beq_iff_eq] at h48)
   refine aq1 ?_;refine wvz (oL 0 hS) ?_;refine wvz (oN hse) ?_;refine aq4 ?_;refine w_split (i := 55) rfl (fun h55 => ?_) (fun h55 => ?_)
   ·(simp only [beq_iff_eq] at h55)
    refine aq8 ?_
    (rw [fits_fin hall]; exact ⟨_, rfl, hK, fe⟩)
   (simp only [bff, ne_eq] at h55)
   refine aq8 ?_
   (rw [fits_fin hall]; exact ⟨_, rfl, hK, fe⟩)
  (simp only [bff, ne_eq] at h48)
  refine aq12 ?_;refine aq3 ?_
  (rw [fits_fin hall]; exact ⟨_, rfl, hK, fe⟩)
 (simp only [bff, ne_eq] at h30)
 refine aq2 ?_;refine wc_condT rfl (fun h32 => ?_) (fun h32 => ?_)
 ·(simp only [beq_iff_eq] at h32)
  refine aq0 ?_;refine wc_cond_t rfl ?_;refine aq1 ?_;refine wvz (oL 0 hS) ?_;refine wvz (oN hst) ?_;refine aq3 ?_;refine w_split (i := 48) rfl (fun h48 => ?_) (fun h48 => ?_)
  ·(simp only [beq_iff_eq] at h48)
   refine aq1 ?_;refine wvz (oL 0 hS) ?_;refine wvz (oN hse) ?_;refine aq4 ?_;refine w_split (i := 55) rfl (fun h55 => ?_) (fun h55 => ?_)
   ·(simp only [beq_iff_eq] at h55)
    refine aq3 ?_;refine wvz (oL 0 hS) ?_;refine aq4 ?_
    (rw [fits_fin hall]; exact ⟨_, rfl, hK, fe⟩)
   (simp only [bff, ne_eq] at h55)
   refine aq8 ?_
   (rw [fits_fin hall]; exact ⟨_, rfl, hK, fe⟩)
  (simp only [bff, ne_eq] at h48)
  refine aq12 ?_;refine aq3 ?_
  (rw [fits_fin hall]; exact ⟨_, rfl, hK, fe⟩)
 (simp only [bff, ne_eq] at h32)
 refine aq2 ?_;refine wc_condT rfl (fun h32 => ?_) (fun h32 => ?_)
 ·(simp only [beq_iff_eq] at h32)
  refine aq1 ?_;refine wvz (oL 0 hS) ?_;refine wvz (oN hst) ?_;refine aq3 ?_;refine w_split (i := 48) rfl (fun h48 => ?_) (fun h48 => ?_)
  ·(simp only [beq_iff_eq] at h48)
   refine aq1 ?_;refine wvz (oL 0 hS) ?_;refine wvz (oN hse) ?_;refine aq4 ?_;refine w_split (i := 55) rfl (fun h55 => ?_) (fun h55 => ?_)
   ·(simp only [beq_iff_eq] at h55)
    refine aq3 ?_;refine wvz (oL 0 hS) ?_;refine aq4 ?_
    (rw [fits_fin hall]; exact ⟨_, rfl, hK, fe⟩)
   (simp only [bff, ne_eq] at h55)
   refine aq8 ?_
   (rw [fits_fin hall]; exact ⟨_, rfl, hK, fe⟩)
  (simp only [bff, ne_eq] at h48)
  refine aq12 ?_;refine aq3 ?_
  (rw [fits_fin hall]; exact ⟨_, rfl, hK, fe⟩)
 (simp only [bff, ne_eq] at h32)
 refine aq2 ?_;refine wc_condT rfl (fun h35 => ?_) (fun h35 => ?_)
 ·(simp only [beq_iff_eq] at h35)
  refine aq0 ?_;refine wc_cond_t rfl ?_;refine aq2 ?_;refine wvz (oL 0 hS) ?_;refine wvz (oN hst) ?_;refine aq3 ?_;refine w_split (i := 48) rfl (fun h48 => ?_) (fun h48 => ?_)
  ·(simp only [beq_iff_eq] at h48)
   refine aq1 ?_;refine wvz (oL 0 hS) ?_;refine wvz (oN hse) ?_;refine aq4 ?_;refine w_split (i := 55) rfl (fun h55 => ?_) (fun h55 => ?_)
   ·(simp only [beq_iff_eq] at h55)
    refine aq3 ?_;refine wvz (oL 0 hS) ?_;refine aq4 ?_
    (rw [fits_fin hall]; exact ⟨_, rfl, hK, fe⟩)
   (simp only [bff, ne_eq] at h55)
   refine aq8 ?_
   (rw [fits_fin hall]; exact ⟨_, rfl, hK, fe⟩)
  (simp only [bff, ne_eq] at h48)
  refine aq12 ?_;refine aq3 ?_
  (rw [fits_fin hall]; exact ⟨_, rfl, hK, fe⟩)
 (simp only [bff, ne_eq] at h35)
 refine aq2 ?_;refine wc_condT rfl (fun h35 => ?_) (fun h35 => ?_)
 ·(simp only [beq_iff_eq] at h35)
  refine aq2 ?_;refine wvz (oL 0 hS) ?_;refine wvz (oN hst) ?_;refine aq3 ?_;refine w_split (i := 48) rfl (fun h48 => ?_) (fun h48 => ?_)
  ·(simp only [beq_iff_eq] at h48)
   refine aq1 ?_;refine wvz (oL 0 hS) ?_;refine wvz (oN hse) ?_;refine aq4 ?_;refine w_split (i := 55) rfl (fun h55 => ?_) (fun h55 => ?_)
   ·(simp only [beq_iff_eq] at h55)
    refine aq3 ?_;refine wvz (oL 0 hS) ?_;refine aq4 ?_
    (rw [fits_fin hall]; exact ⟨_, rfl, hK, fe⟩)
   (simp only [bff, ne_eq] at h55)
   refine aq8 ?_
   (rw [fits_fin hall]; exact ⟨_, rfl, hK, fe⟩)
  (simp only [bff, ne_eq] at h48)
  refine aq12 ?_;refine aq3 ?_
  (rw [fits_fin hall]; exact ⟨_, rfl, hK, fe⟩)
 (simp only [bff, ne_eq] at h35)
 refine aq2 ?_;refine wc_condT rfl (fun h38 => ?_) (fun h38 => ?_)
 ·(simp only [beq_iff_eq] at h38)
  refine aq1 ?_;refine wvz (oL 0 hS) ?_;refine wvz (oN hse) ?_;refine aq2 ?_;refine wvz (oL 0 hS) ?_;refine wvz (oN hst) ?_;refine aq3 ?_;refine w_split (i := 48) rfl (fun h48 => ?_) (fun h48 => ?_)
  ·(simp only [beq_iff_eq] at h48)
   refine aq1 ?_;refine wvz (oL 0 hS) ?_;refine wvz (oN hse) ?_;refine aq4 ?_;refine w_split (i := 55) rfl (fun h55 => ?_) (fun h55 => ?_)
   ·(simp only [beq_iff_eq] at h55)
    refine aq3 ?_;refine wvz (oL 0 hS) ?_;refine aq4 ?_
    (rw [fits_fin hall]; exact ⟨_, rfl, hK, fe⟩)
   (simp only [bff, ne_eq] at h55)
   refine aq8 ?_
   (exfalso; simp at h55; done)
  (simp only [bff, ne_eq] at h48)
  refine aq12 ?_;refine aq3 ?_
  (rw [fits_fin hall]; exact ⟨_, rfl, hK, fe⟩)
 (simp only [bff, ne_eq] at h38)
 refine aq1 ?_
 (rw [fits_fin hall]; exact ⟨_, rfl, hK, fe⟩)
-- unused hook: st57.t
-- unused hook: st57.f
end Go.Ab
namespace Go.Ab
open Go.Proofs
def tellF (x : Flt) (b : Bool) (y : Flt) : Flt := if b = true ∧ x.err = 0 then y else x
def ckC (c0 c1 c2 c3 c4 : AV) (x : Flt) : List AV := [c0, c1, c2, c3, c4, .int .i64 x.err, .int .i64 x.f, .int .i64 x.at_]
def forN (n : Nat) (l : Int) : Bool := decide (n < 64) && decide (l.fdiv (2 ^ n) ≠ 0)
theorem tell_ok {s : St} {c : Nat} {c0 c1 c2 c3 c4 : AV} {x : Flt} {b : Bool} {e f a : Int} (hok : s.Ok) (hp : Pt s.h (.ptr c 0 0) (ckC c0 c1 c2 c3 c4 x)) :
  CallS Try.prog Tt Kt 96 [.ptr c 0 0, .bool b, .int .i64 e, .int .i64 f, .int .i64 a] s fun r s' => Keep [c] s s' ∧ Pt s'.h (.ptr c 0 0) (ckC c0 c1 c2 c3 c4 (tellF x b ⟨e, f, a⟩)) ∧ r = .tup [] := by
 refine cof 26 Try.func96 ?_;refine aq2 ?_;refine w_split (i := 11) rfl (fun h11 => ?_) (fun h11 => ?_)
 ·refine aq4 ?_;refine wvz (v := .int .i64 x.err) (oM (Pt.at hp (o := 5) (nl rfl))) ?_;refine aq2 ?_;refine wcb (fun h18 => ?_) (fun h18 => ?_)
  ·refine aq7 ?_;refine w_store_fld (o := 5) (p := .ptr c 0 0) rfl (by show some (AV.ptr c 0 (0 + 5)) = _; rfl) rfl rfl rfl rfl hok hp (by simp [AV.gs]) (nl rfl) ?_;rintro z hz hk hc;refine aq0 ?_;exact ⟨_, rfl, hk, by rw [tellF, if_pos ⟨h11, h18⟩]; exact hz, rfl⟩
  refine aq0 ?_;exact ⟨_, rfl, (Keep.refl hok).more (fun g hg => by cases hg), by rw [tellF, if_neg (fun h => h18 h.2)]; exact hp, rfl⟩
 refine aq7 ?_;refine wc_cond_f rfl ?_;refine aq0 ?_;exact ⟨_, rfl, (Keep.refl hok).more (fun g hg => by cases hg), by rw [tellF, if_neg (fun h => by rw [h11] at h; cases h.1)]; exact hp, rfl⟩
theorem shr_u64 {T : Tab} {xt : TypeId} {k' : IntKind} {a : Int} (k : Nat) : binA T .shr xt (.int .u64 a) (.int k' (k : Nat)) = some (.int .u64 (a.fdiv (2 ^ (min k 64)))) := by
 have h : ¬ ((k : Nat) : Int) < 0 := by omega
 simp only [binA, shiftA, if_neg h, Int.toNat_natCast]
 rfl
theorem shr_i {a : Int} (k : Nat) : binA Tt .shr 64 (.int .u64 a) (.int .i64 (k : Nat)) = some (.int .u64 (a.fdiv (2 ^ (min k 64)))) := shr_u64 k
theorem foreign_ok {s : St} {c n : Nat} {c0 c1 c2 c3 c4 : AV} {x : Flt} {l : Int} (hok : s.Ok) (hp : Pt s.h (.ptr c 0 0) (ckC c0 c1 c2 c3 c4 x)) (hc0 : c0.slen = some n) :
  CallS Try.prog Tt Kt 100 [.ptr c 0 0, .int .u64 l] s fun r s' => Keep [] s s' ∧ r = .bool (forN n l) := by
 refine cof 20 Try.func100 ?_;refine aq5 ?_;refine wvz (v := c0) (oM (Pt.at hp (o := 0) (Nat.zero_le _))) ?_;refine wvz (oN hc0) ?_;refine aq4 ?_;refine w_split (i := 14) rfl (fun h14 => ?_) (fun h14 => ?_)
 ·simp only [dtt] at h14;refine aq2 ?_;refine wvz (op_pure (shr_i n)) ?_;refine aq3 ?_;refine ⟨_, rfl, Keep.refl hok, congrArg AV.bool ?_⟩;have e : min n 64 = n := by omega
  rw [forN, e, decide_eq_true (by omega), Bool.true_and];rw [Bool.eq_iff_iff]; simp
 simp only [dff] at h14;refine aq6 ?_;exact ⟨_, rfl, Keep.refl hok, by rw [forN, decide_eq_false (by omega)]; rfl⟩
theorem indexS_ok {s : St} {v : AV} {ns : List ByteArray} {nm : ByteArray} (hok : s.Ok) (hl : ns.length ≤ 2097152) (hv : RowP 1 v (ns.map sC)) :
  CallS Try.prog Tt Kt 131 [v, .str nm] s fun r s' => Keep [] s s' ∧ r = .int .i64 (fiI ns nm) := by
 refine cof 19 Try.func131 ?_;refine aq0 ?_;have hK := Keep.refl hok;refine aq2 ?_;refine wvz (op_len rfl rfl rfl rfl rfl (RowP.slen hv |>.trans (by rw [lmm]))) ?_;refine aq1 ?_;refine wc_loop_at (fun jj m z => ∃ i : Nat, jj = ns.length - i ∧ i ≤ ns.length ∧ m = [(0, v), (1, .str nm), (7, .int .i64 (ns.length : Nat)), (8, .int .i64 (i : Nat))] ∧ z = s ∧ ∀ j, j < i → eqS (ns.getD j ByteArray.empty) nm = false) ns.length
  [(0, v), (1, .str nm), (7, .int .i64 (ns.length : Nat)), (8, .int .i64 ((0 : Nat) : Int))] (scn rfl (scn rfl (scn rfl (scn rfl (Sub.nil _))))) ⟨0, by simp, by simp, rfl, rfl, fun j h => by omega⟩ ?_
 rintro jj m z ⟨i, rfl, hi, rfl, eX, hq⟩;obtain rfl := eX.symm;refine aq1 ?_;refine wcd (fun h9 => ?_) (fun h9 => ?_)
 ·refine aq0 ?_;obtain ⟨n, hn⟩ : ∃ n, ns[i]? = some n := ⟨_, gee (by omega)⟩;have hgn : ns.getD i ByteArray.empty = n := by rw [gdd, hn]; rfl
  refine aq5 ?_;refine wvz (oJ (RowP.up hv _)) ?_;refine wvz (oM (Row.mk_pt (RowP.up hv _) hn)) ?_;refine aq1 ?_;refine wc_condT rfl (fun h16 => ?_) (fun h16 => ?_)
  ·have hq1 : eqS (ns.getD i ByteArray.empty) nm = true := by rw [hgn, eqS, BEq.comm]; exact h16
   refine aq2 ?_;exact ⟨_, rfl, hK, by rw [fiI_hit hq (by omega) hq1]; rfl⟩
  have hq1 : eqS (ns.getD i ByteArray.empty) nm = false := by rw [hgn, eqS, BEq.comm]; exact h16
  refine aq0 ?_;refine wad ?_;refine aq1 ?_;exact rn ⟨i + 1, rfl, by omega, rfl, rfl, fun j hj => (lsl.1 hj).elim (hq j) fun e => by rw [e]; exact hq1⟩
 obtain rfl : i = ns.length := by omega
 refine aq1 ?_;exact ⟨_, rfl, hK, by rw [fiI_none hq]; rfl⟩
theorem containsS_ok {s : St} {v : AV} {ns : List ByteArray} {nm : ByteArray} (hok : s.Ok) (hl : ns.length ≤ 2097152) (hv : RowP 1 v (ns.map sC)) :
  CallS Try.prog Tt Kt 98 [v, .str nm] s fun r s' => Keep [] s s' ∧ r = .bool (decide (0 ≤ fiI ns nm)) := by
 refine cof 9 Try.func98 ?_;refine aq0 ?_;have hS := SH.start hok;refine aq3 ?_;refine wkz (indexS_ok hok hl hv) ?_;rintro _ z ⟨hk, rfl⟩;have hS := hS.mov hk;have hK := hS.K;refine aq2 ?_;exact ⟨_, rfl, hK, rfl⟩
theorem eqS_iff {a b : ByteArray} : eqS a b = true ↔ a = b := by
 unfold eqS;rw [beq_iff_eq, ByteArray.toList_eq, ByteArray.toList_eq]
 constructor
 ·intro h;cases a; cases b;simp only at h
  congr 1
  exact Array.toList_inj.1 h
 ·intro h; rw [h]
theorem ba_beq {a b : ByteArray} : (a == b) = true ↔ a = b := by
 cases a with | mk x => cases b with | mk y =>
  show (x == y) = true ↔ _
  rw [beq_iff_eq]
  constructor
  ·intro h; rw [h]
  ·intro h; cases h; rfl
theorem fiI_mem {ns : List ByteArray} {nm : ByteArray} : 0 ≤ fiI ns nm ↔ nm ∈ ns := by
 constructor
 ·intro h;unfold fiI idxQ at h;cases hf : (List.range ns.length).find? fun i => eqS (ns.getD i ByteArray.empty) nm with
  | none => rw [hf] at h; simp only at h; omega
  | some i =>
   have h1 := List.find?_some hf;have h2 := List.mem_of_find?_eq_some hf;simp only [List.mem_range] at h2;rw [eqS_iff, gdd, gee h2] at h1;rw [← h1];exact List.getElem_mem h2
 ·intro h;obtain ⟨i, hi⟩ := List.getElem?_of_mem h;have hl := (ges.1 hi).1;unfold fiI idxQ;cases hf : (List.range ns.length).find? fun i => eqS (ns.getD i ByteArray.empty) nm with
  | some j => simp only; omega
  | none =>
   rw [List.find?_eq_none] at hf;have := hf i (by simpa using hl);rw [gdd, hi] at this;exact (this (eqS_iff.2 rfl)).elim
def SeenR (es : List (AV × AV)) (ns : List ByteArray) : Prop := (∀ p ∈ es, ∃ (nm : ByteArray) (k : Nat), p = (.str nm, .int .i64 k) ∧ 1 ≤ k ∧ k ≤ ns.length) ∧ ∀ nm : ByteArray, (∃ p ∈ es, p.1 = .str nm) ↔ nm ∈ ns
theorem SeenR.nil : SeenR [] [] := ⟨(fun p h => by cases h), fun nm => by simp⟩
theorem find_seen {nm : ByteArray} : ∀ {es : List (AV × AV)} {B : Nat} (i : Nat), (∀ p ∈ es, ∃ (nm : ByteArray) (k : Nat), p = (.str nm, .int .i64 k) ∧ 1 ≤ k ∧ k ≤ B) →
  ((¬ ∃ p ∈ es, p.1 = .str nm) ∧ mpFind (.str nm) es i = some none) ∨ ∃ j k : Nat, i ≤ j ∧ es[j - i]? = some (.str nm, .int .i64 (k : Nat)) ∧ 1 ≤ k ∧ k ≤ B ∧ mpFind (.str nm) es i = some (some (j, .int .i64 (k : Nat)))
 | [], B, i, _ => .inl ⟨by simp, rfl⟩
 | p :: es, B, i, h => by
  obtain ⟨m, k, rfl, h1, h2⟩ := h p (mcs ..);unfold mpFind;simp only [keyEq];cases e : (nm == m) with
  | true =>
   have : nm = m := ba_beq.1 e;subst this;exact .inr ⟨i, k, nlr _, by simp, h1, h2, rfl⟩
  | false =>
   have hne : nm ≠ m := fun h => by rw [ba_beq.2 h] at e; cases e
   rcases find_seen (i + 1) (fun q hq => h q (List.mem_cons_of_mem _ hq)) with ⟨k1, k2⟩ | ⟨j, k', k1, k2, k3, k4, k5⟩
   ·refine .inl ⟨?_, k2⟩;rintro ⟨q, hq, hqn⟩;rcases List.mem_cons.1 hq with rfl | hq
    ·cases hqn; exact hne rfl
    ·exact k1 ⟨q, hq, hqn⟩
   ·exact .inr ⟨j, k', by omega, by rw [show j - i = (j - (i + 1)) + 1 by omega, List.getElem?_cons_succ]; exact k2, k3, k4, k5⟩
def mUpd (es : List (AV × AV)) (k v : AV) : List (AV × AV) := match mpFind k es 0 with
 | some (some (i, _)) => es.set i (k, v)
 | _ => es ++ [(k, v)]
theorem seen_look {es : List (AV × AV)} {ns : List ByteArray} (h : SeenR es ns) (nm : ByteArray) {ie : TI} (ha : ie.sh.isAgg = false) (hz : ie.zero = [.int .i64 0]) :
  ∃ k : Nat, lookV ie es (.str nm) = some (.int .i64 (k : Nat)) ∧ (0 < k ↔ nm ∈ ns) ∧ k ≤ ns.length ∧ (∃ r, mpFind (.str nm) es 0 = some r) ∧ SeenR (mUpd es (.str nm) (.int .i64 ((k : Nat) + 1))) (ns ++ [nm]) := by
 rcases find_seen (nm := nm) 0 h.1 with ⟨h1, h2⟩ | ⟨j, k, -, h2, h3, h4, h5⟩
 ·refine ⟨0, ?_, ?_, Nat.zero_le _, ⟨_, h2⟩, ?_, ?_⟩
  ·unfold lookV;rw [h2];simp only [ofCells, ha, hz, Bool.false_eq_true, if_false]
   rfl
  ·rw [← h.2 nm];exact ⟨fun h => by omega, fun h => (h1 h).elim⟩
  ·intro p hp;unfold mUpd at hp;rw [h2] at hp;simp only at hp;rcases List.mem_append.1 hp with hp | hp
   ·obtain ⟨m, q, e, a, b⟩ := h.1 p hp;exact ⟨m, q, e, a, by simp; omega⟩
   ·rw [msi.1 hp];exact ⟨nm, 1, rfl, nlr _, by simp⟩
  ·intro m;unfold mUpd;rw [h2];simp only;rw [List.mem_append, msi, ← h.2 m]
   constructor
   ·rintro ⟨p, hp, e⟩;rcases List.mem_append.1 hp with hp | hp
    ·exact .inl ⟨p, hp, e⟩
    ·rw [msi.1 hp] at e; cases e; exact .inr rfl
   ·rintro (⟨p, hp, e⟩ | rfl)
    ·exact ⟨p, List.mem_append_left _ hp, e⟩
    ·exact ⟨_, List.mem_append_right _ (msi.2 rfl), rfl⟩
 ·rw [Nat.sub_zero] at h2;have hm : nm ∈ ns := (h.2 nm).1 ⟨_, mog h2, rfl⟩;have hj := (ges.1 h2).1;refine ⟨k, ?_, ⟨fun _ => hm, fun _ => by omega⟩, h4, ⟨_, h5⟩, ?_, ?_⟩
  ·unfold lookV; rw [h5]
  ·intro p hp;unfold mUpd at hp;rw [h5] at hp;simp only at hp;rcases List.mem_or_eq_of_mem_set hp with hp | rfl
   ·obtain ⟨m, q, e, a, b⟩ := h.1 p hp;exact ⟨m, q, e, a, by simp; omega⟩
   ·exact ⟨nm, k + 1, by simp, by omega, by simp; omega⟩
  ·intro m;unfold mUpd;rw [h5];simp only;rw [List.mem_append, msi, ← h.2 m]
   constructor
   ·rintro ⟨p, hp, e⟩;rcases List.mem_or_eq_of_mem_set hp with hp | rfl
    ·exact .inl ⟨p, hp, e⟩
    ·cases e; exact .inr rfl
   ·rintro (⟨p, hp, e⟩ | rfl)
    ·obtain ⟨i, hi⟩ := List.getElem?_of_mem hp;by_cases hij : i = j
     ·subst hij;rw [h2] at hi;cases hi;cases e;exact ⟨(.str nm, .int .i64 ((k : Nat) + 1)), mog (i := i) (by rw [List.getElem?_set_self hj]), rfl⟩
     ·exact ⟨p, mog (i := i) (by rw [List.getElem?_set_ne (fun h => hij h.symm)]; exact hi), e⟩
    ·exact ⟨(.str m, .int .i64 ((k : Nat) + 1)), mog (i := j) (by rw [List.getElem?_set_self hj]), rfl⟩
section
variable {P : Program} {T : Tab} {K : Kn} {nt : NT} {ops : Array Oper} {rest : List Oper} {m : Sy} {s s0 : St} {Q : Sy → St → Prop} {d ty : Nat} {pos : String} {af : Array Edge} {g : Option (Nat × Bool)} {L : List Chunk} {X : List Nat}
theorem ws_mapUpd {tt kt et : TypeId} {i : TI} {x y z : Operand} {c : Nat} {es : List (AV × AV)} {vk vx : AV} (n : Nat) (hS : SH s0 L s X) (hn : L[n]? = some (mapC c es)) (hg : guardY ops m g = some true) (hT : T tt = some i) (hs : i.sh = .map kt et) (hx : evY m x = some (.mp c)) (hy : evY m y = some vk) (hz : evY m z = some vx)
  (hko : keyOk T kt vk = true) (hf : ∃ r, mpFind vk es 0 = some r) (k : ∀ s', SH s0 (L.set n (mapC c (mUpd es vk vx))) s' X → W P T K nt ops rest m s' Q) : W P T K nt ops (⟨none, .mapUpdate tt x y z, ty, pos, af, g⟩ :: rest) m s Q := by
 obtain ⟨sh, size, by_, zero, flat⟩ := i;cases hs;have hm : MapAt s.h c es := hS.get n hn;obtain ⟨r, hr⟩ := hf;have hmu : MapAt (s.setG c ⟨[⟨[], 0, some (.mp (mUpd es vk vx))⟩]⟩).h c (mUpd es vk vx) := by unfold MapAt; simp only [St.setG, Tr.get_set, if_true]
 refine w_eff hg (s' := s.setG c ⟨[⟨[], 0, some (.mp (mUpd es vk vx))⟩]⟩) (fun t ht => ?_) (k _ (hS.upd n hn (setG_keep hS.ok hm _) (fun g hg => by
   have : g = c := msi.1 hg;exact this) (mapC c (mUpd es vk vx)) hmu fun g hg => .inl hg))
 unfold mUpd;cases r with
 | none => simp only [evOp, hT, evY_ok ht hx, evY_ok ht hy, evY_ok ht hz, hm.entries, hko, hr]
 | some p => obtain ⟨j, u⟩ := p; simp only [evOp, hT, evY_ok ht hx, evY_ok ht hy, evY_ok ht hz, hm.entries, hko, hr]
end
end Go.Ab
namespace Go.Ab
open Go.Proofs
theorem SH.ne {s0 s : St} {L : List Chunk} {X : List Nat} {a b : Nat} {i j : Nat} {c d : Chunk} (hS : SH s0 L s X) (hij : i ≠ j) (hi : L[i]? = some c) (hj : L[j]? = some d) (ha : c.F a) (hb : d.F b) : a ≠ b := fun e => hS.dis i j c d hij hi hj a ha (e ▸ hb)
def deX (np : Nat) (seen : Bool) (i most : Int) (nm : ByteArray) (long l : Int) (n : Int) (x : Flt) : Flt :=
 tellF (tellF (tellF (tellF (tellF x (decide (i ≥ most)) ⟨74, -1, n⟩) (!nameOk nm) ⟨1, -1, n⟩) seen ⟨70, -1, n⟩) (decide (long < 1) || decide (long > 256)) ⟨1, -1, n⟩) (forN np l) ⟨10, -1, n⟩
theorem SH.lit {s0 s : St} {X : List Nat} {a b c d e : Chunk} {R : List Chunk} (h : SH s0 (a :: b :: c :: d :: e :: R) s X) : SH s0 (a :: b :: c :: d :: e :: R) s X := h
theorem one_ok {s0 z : St} {X : List Nat} {R : List Chunk} {pc pn pm g c n : Nat} {es : List (AV × AV)} {ns : List ByteArray} {c0 c1 c2 c3 c4 : AV} {x : Flt} {np : Nat} {i most long l : Int} {nm : ByteArray}
  (hS : SH s0 (ptC (.ptr pc 0 0) [.ptr c 0 0] :: ptC (.ptr pn 0 0) [.int .i64 (n : Nat)] :: ptC (.ptr pm 0 0) [.mp g] :: mapC g es :: ptC (.ptr c 0 0) (ckC c0 c1 c2 c3 c4 x) :: R) z X) (hn : n ≤ 33554432) (hnm : nm.size ≤ maxBytes) (hs : SeenR es ns) (hns : ns.length ≤ 33554432) (hc0 : c0.slen = some np) :
  CallS Try.prog Tt Kt 99 [.int .i64 i, .int .i64 most, .str nm, .int .i64 long, .int .u64 l, .ptr pc 0 0, .ptr pn 0 0, .ptr pm 0 0] z fun r z' =>
   (∃ es', SH s0 (ptC (.ptr pc 0 0) [.ptr c 0 0] :: ptC (.ptr pn 0 0) [.int .i64 ((n : Nat) + 1)] :: ptC (.ptr pm 0 0) [.mp g] :: mapC g es' :: ptC (.ptr c 0 0) (ckC c0 c1 c2 c3 c4 (deX np (decide (0 ≤ fiI ns nm)) i most nm long l (n : Nat) x)) :: R) z' X ∧ SeenR es' (ns ++ [nm])) ∧ r = .tup [] := by
 have h04 : pc ≠ c := hS.ne (i := 0) (j := 4) (by decide) rfl rfl (msi.2 rfl) (msi.2 rfl);have h14 : pn ≠ c := hS.ne (i := 1) (j := 4) (by decide) rfl rfl (msi.2 rfl) (msi.2 rfl);obtain ⟨k, hlook, hk0, hkn, hfind, hseen⟩ := seen_look hs nm (ie := ⟨.num .i64, 1, 8, [.int .i64 0], false⟩) rfl rfl;have hkd : decide ((k : Int) > 0) = decide (0 ≤ fiI ns nm) := decide_eq_decide.2 (by rw [fiI_mem, ← hk0]; omega);refine cof 53 Try.func99 ?_;refine aq0 ?_;have hcs := (hS.bdX 4 rfl c (msi.2 rfl)).2;refine aq0 ?_;refine wvz (oL 0 hS) ?_;refine aq3 ?_;refine wvz (oL 1 hS) ?_;refine wkz (tell_ok hS.ok (hS.pt 4 rfl)) ?_;rintro _ z ⟨hkX, hpX, rfl⟩;have hS := hS.upd 4 rfl hkX (fun g hg => hg) (ptC (.ptr c 0 0) (ckC c0 c1 c2 c3 c4 _)) hpX (fun g hg => .inl hg);have hS := SH.lit hS;refine aq0 ?_;have hR := Keep.refl (s := z) (by first | exact hK.ok | exact hS.ok | assumption);refine wc_draw (Old z [c]) (by kernel_rfl) rfl ?_;refine wo_load hR rfl rfl ((hS.pt 0 rfl).at (nl rfl)) rfl (by simp [AV.gs, h04]) rfl rfl ?_;refine aq1 ?_;refine woc hR (name_ok hR.ok hnm) ?_;rintro _ sX ⟨-, rfl⟩ hR;refine aq1 ?_;refine wo_load hR rfl rfl ((hS.pt 1 rfl).at (nl rfl)) rfl (by simp [AV.gs, h14]) rfl rfl ?_;refine wo_callX hR (fun _ h => h) rfl rfl (fun _ => rfl) (op_call rfl rfl rfl rfl) (tell_ok hR.ok (Pt.bare ((hS.pt 4 rfl).keep0 hR))) (fun _ _ h => h.1) ?_;rintro _ sX ⟨-, hpX, rfl⟩ hkX;refine aq0 ?_;have hS := hS.mov hR;have hS := hS.upd 4 rfl hkX (fun g hg => hg) (ptC (.ptr c 0 0) (ckC c0 c1 c2 c3 c4 _)) hpX (fun g hg => .inl hg);have hS := SH.lit hS;refine aq0 ?_;refine wvz (oL 0 hS) ?_;refine wvz (oL 2 hS) ?_;refine aq1 ?_;refine wvz (v := .int .i64 (k : Nat)) (op_lookup rfl rfl rfl rfl rfl (MapAt.entries (hS.get 3 rfl)) rfl hlook) ?_;refine aq1 ?_;refine wvz (oL 1 hS) ?_;refine wkz (tell_ok hS.ok (hS.pt 4 rfl)) ?_;rintro _ z ⟨hkX, hpX, rfl⟩;have hS := hS.upd 4 rfl hkX (fun g hg => hg) (ptC (.ptr c 0 0) (ckC c0 c1 c2 c3 c4 _)) hpX (fun g hg => .inl hg);have hS := SH.lit hS;refine aq0 ?_;refine wvz (oL 0 hS) ?_;refine aq3 ?_;refine w_split (i := 35) rfl (fun h35 => ?_) (fun h35 => ?_)
 ·refine aq3 ?_;refine wvz (oL 1 hS) ?_;refine wkz (tell_ok hS.ok (hS.pt 4 rfl)) ?_;rintro _ z ⟨hkX, hpX, rfl⟩;have hS := hS.upd 4 rfl hkX (fun g hg => hg) (ptC (.ptr c 0 0) (ckC c0 c1 c2 c3 c4 _)) hpX (fun g hg => .inl hg);have hS := SH.lit hS;refine aq0 ?_;have hR := Keep.refl (s := z) (by first | exact hK.ok | exact hS.ok | assumption);refine wc_draw (Old z [c]) (by kernel_rfl) rfl ?_;refine wo_load hR rfl rfl ((hS.pt 0 rfl).at (nl rfl)) rfl (by simp [AV.gs, h04]) rfl rfl ?_;refine wo_load hR rfl rfl ((hS.pt 0 rfl).at (nl rfl)) rfl (by simp [AV.gs, h04]) rfl rfl ?_;refine aq1 ?_;refine woc hR (foreign_ok hR.ok (Pt.bare ((hS.pt 4 rfl).keep0 hR)) hc0) ?_;rintro _ sX ⟨-, rfl⟩ hR;refine wo_load hR rfl rfl ((hS.pt 1 rfl).at (nl rfl)) rfl (by simp [AV.gs, h14]) rfl rfl ?_;refine wo_callX hR (fun _ h => h) rfl rfl (fun _ => rfl) (op_call rfl rfl rfl rfl) (tell_ok hR.ok (Pt.bare ((hS.pt 4 rfl).keep0 hR))) (fun _ _ h => h.1) ?_;rintro _ sX ⟨-, hpX, rfl⟩ hkX;refine aq0 ?_;have hS := hS.mov hR;have hS := hS.upd 4 rfl hkX (fun g hg => hg) (ptC (.ptr c 0 0) (ckC c0 c1 c2 c3 c4 _)) hpX (fun g hg => .inl hg);have hS := SH.lit hS;refine aq0 ?_;refine wvz (oL 2 hS) ?_;refine aq1 ?_;refine wvz (v := .int .i64 (k : Nat)) (op_lookup rfl rfl rfl rfl rfl (MapAt.entries (hS.get 3 rfl)) rfl hlook) ?_;refine wad ?_;refine ws_mapUpd 3 hS rfl rfl rfl rfl rfl rfl rfl rfl hfind ?_;rintro z hS;have hS := SH.lit hS;refine aq0 ?_;refine wvz (oL 1 hS) ?_;refine wad ?_
  first | refine ws_storeL 1 hS rfl rfl rfl rfl rfl rfl rfl (nl rfl) ?_
  rintro z hS;have hS := SH.lit hS;refine aq0 ?_;exact ⟨_, rfl, ⟨_, by rw [deX, ← hkd, h35]; exact hS, hseen⟩, rfl⟩
 refine aq3 ?_;refine wvz (oL 1 hS) ?_;refine wkz (tell_ok hS.ok (hS.pt 4 rfl)) ?_;rintro _ z ⟨hkX, hpX, rfl⟩;have hS := hS.upd 4 rfl hkX (fun g hg => hg) (ptC (.ptr c 0 0) (ckC c0 c1 c2 c3 c4 _)) hpX (fun g hg => .inl hg);have hS := SH.lit hS;refine aq0 ?_;have hR := Keep.refl (s := z) (by first | exact hK.ok | exact hS.ok | assumption);refine wc_draw (Old z [c]) (by kernel_rfl) rfl ?_;refine wo_load hR rfl rfl ((hS.pt 0 rfl).at (nl rfl)) rfl (by simp [AV.gs, h04]) rfl rfl ?_;refine wo_load hR rfl rfl ((hS.pt 0 rfl).at (nl rfl)) rfl (by simp [AV.gs, h04]) rfl rfl ?_;refine aq1 ?_;refine woc hR (foreign_ok hR.ok (Pt.bare ((hS.pt 4 rfl).keep0 hR)) hc0) ?_;rintro _ sX ⟨-, rfl⟩ hR;refine wo_load hR rfl rfl ((hS.pt 1 rfl).at (nl rfl)) rfl (by simp [AV.gs, h14]) rfl rfl ?_;refine wo_callX hR (fun _ h => h) rfl rfl (fun _ => rfl) (op_call rfl rfl rfl rfl) (tell_ok hR.ok (Pt.bare ((hS.pt 4 rfl).keep0 hR))) (fun _ _ h => h.1) ?_;rintro _ sX ⟨-, hpX, rfl⟩ hkX;refine aq0 ?_;have hS := hS.mov hR;have hS := hS.upd 4 rfl hkX (fun g hg => hg) (ptC (.ptr c 0 0) (ckC c0 c1 c2 c3 c4 _)) hpX (fun g hg => .inl hg);have hS := SH.lit hS;refine aq0 ?_;refine wvz (oL 2 hS) ?_;refine aq1 ?_;refine wvz (v := .int .i64 (k : Nat)) (op_lookup rfl rfl rfl rfl rfl (MapAt.entries (hS.get 3 rfl)) rfl hlook) ?_;refine wad ?_;refine ws_mapUpd 3 hS rfl rfl rfl rfl rfl rfl rfl rfl hfind ?_;rintro z hS;have hS := SH.lit hS;refine aq0 ?_;refine wvz (oL 1 hS) ?_;refine wad ?_
 first | refine ws_storeL 1 hS rfl rfl rfl rfl rfl rfl rfl (nl rfl) ?_
 rintro z hS;have hS := SH.lit hS;refine aq0 ?_;exact ⟨_, rfl, ⟨_, by rw [deX, ← hkd, h35]; exact hS, hseen⟩, rfl⟩
def U64 (a : Int) : Prop := 0 ≤ a ∧ a < 18446744073709551616
def DeclL.fine (d : DeclL) : Prop := d.name.size ≤ maxBytes ∧ U64 d.label
def FunL.fine (f : FunL) : Prop := f.name.size ≤ maxBytes ∧ U64 f.level ∧ (∀ d ∈ f.params, d.fine) ∧ (∀ l ∈ f.results, U64 l) ∧ (∀ d ∈ f.vars, d.fine)
def SrcL.fine (x : SrcL) : Prop := (∀ p ∈ x.principals, p.size ≤ maxBytes) ∧ (∀ d ∈ x.globals, d.fine) ∧ (∀ d ∈ x.arrays, d.name.size ≤ maxBytes ∧ U64 d.label) ∧ (∀ d ∈ x.channels, d.fine) ∧ ∀ f ∈ x.funcs, f.fine
structure DE where
 name : ByteArray
 i : Nat
 most : Int
 long : Int
 label : Int
def esN (s : SrcL) : List DE := (s.globals.mapIdx fun i d => ⟨d.name, i, 32, 1, d.label⟩) ++ ((s.arrays.mapIdx fun i d => ⟨d.name, i, 16, d.len, d.label⟩) ++ ((s.channels.mapIdx fun i d => ⟨d.name, i, 16, 1, d.label⟩) ++ (s.funcs.mapIdx fun i d => ⟨d.name, i, 32, 1, 0⟩)))
theorem esN_len (s : SrcL) : (esN s).length = s.globals.length + s.arrays.length + s.channels.length + s.funcs.length := by
 simp [esN]; omega
section
variable {s : SrcL} {i : Nat}
theorem esN_g {d : DeclL} (h : s.globals[i]? = some d) : (esN s)[i]? = some ⟨d.name, i, 32, 1, d.label⟩ := by
 have hl := (ges.1 h).1;rw [esN, gal (by simpa using hl), List.getElem?_mapIdx, h]; rfl
theorem esN_a {d : ArrD} (h : s.arrays[i]? = some d) : (esN s)[s.globals.length + i]? = some ⟨d.name, i, 16, d.len, d.label⟩ := by
 have hl := (ges.1 h).1;rw [esN, gar (by simp), List.length_mapIdx, Nat.add_sub_cancel_left, gal (by simpa using hl), List.getElem?_mapIdx, h]; rfl
theorem esN_c {d : DeclL} (h : s.channels[i]? = some d) : (esN s)[s.globals.length + s.arrays.length + i]? = some ⟨d.name, i, 16, 1, d.label⟩ := by
 have hl := (ges.1 h).1;rw [esN, gar (by simp; omega), List.length_mapIdx, gar (by simp; omega), List.length_mapIdx, show s.globals.length + s.arrays.length + i - s.globals.length - s.arrays.length = i by omega, gal (by simpa using hl), List.getElem?_mapIdx, h]; rfl
theorem esN_f {d : FunL} (h : s.funcs[i]? = some d) : (esN s)[s.globals.length + s.arrays.length + s.channels.length + i]? = some ⟨d.name, i, 32, 1, 0⟩ := by
 have hl := (ges.1 h).1;rw [esN, gar (by simp; omega), List.length_mapIdx, gar (by simp; omega), List.length_mapIdx, gar (by simp; omega), List.length_mapIdx, show s.globals.length + s.arrays.length + s.channels.length + i - s.globals.length - s.arrays.length - s.channels.length = i by omega, List.getElem?_mapIdx, h]; rfl
end
def prT (s : SrcL) (i : Nat) : List (Bool × Flt) := match s.principals[i]? with
 | none => []
 | some p => [(decide ((i : Int) ≥ 64), ⟨74, -1, i⟩), (!nameOk p, ⟨1, -1, i⟩), (decide (0 ≤ fiI (s.principals.take i) p), ⟨70, -1, i⟩)]
def deT (s : SrcL) (j : Nat) : List (Bool × Flt) := match (esN s)[j]? with
 | none => []
 | some e => [(decide ((e.i : Int) ≥ e.most), ⟨74, -1, (s.principals.length + j : Nat)⟩), (!nameOk e.name, ⟨1, -1, (s.principals.length + j : Nat)⟩), (decide (0 ≤ fiI (((esN s).take j).map DE.name) e.name), ⟨70, -1, (s.principals.length + j : Nat)⟩),
   (decide (e.long < 1) || decide (e.long > 256), ⟨1, -1, (s.principals.length + j : Nat)⟩), (forN s.principals.length e.label, ⟨10, -1, (s.principals.length + j : Nat)⟩)]
def declP (s : SrcL) (k : Nat) : List (Bool × Flt) := (List.range k).flatMap (prT s)
def declE (s : SrcL) (k : Nat) : List (Bool × Flt) := (List.range k).flatMap (deT s)
def declL (s : SrcL) : List (Bool × Flt) := declP s s.principals.length ++ declE s (esN s).length
theorem range_flat {β : Type} (g : Nat → List β) (k : Nat) : (List.range (k + 1)).flatMap g = (List.range k).flatMap g ++ g k := by
 rw [List.range_succ, List.flatMap_append]; simp
theorem good_pr (s : SrcL) (i : Nat) : GoodF (prT s i) := by
 unfold prT;split
 ·exact GoodF.nil
 ·intro p hp;simp only [List.mem_cons, nmn, or_false] at hp;rcases hp with rfl | rfl | rfl <;> simp
theorem good_de (s : SrcL) (i : Nat) : GoodF (deT s i) := by
 unfold deT;split
 ·exact GoodF.nil
 ·intro p hp;simp only [List.mem_cons, nmn, or_false] at hp;rcases hp with rfl | rfl | rfl | rfl | rfl <;> simp
theorem good_declP (s : SrcL) (k : Nat) : GoodF (declP s k) := GoodF.flat fun i _ => good_pr s i
theorem good_declE (s : SrcL) (k : Nat) : GoodF (declE s k) := GoodF.flat fun i _ => good_de s i
theorem good_declL (s : SrcL) : GoodF (declL s) := (good_declP s _).app (good_declE s _)
theorem firstF_tells : ∀ {r l : List (Bool × Flt)}, GoodF l → GoodF r → r.foldl (fun x p => tellF x p.1 p.2) (firstF l) = firstF (l ++ r)
 | [], l, _, _ => by simp
 | (b, y) :: r, l, hl, hr => by
  have h1 : GoodF (l ++ [(b, y)]) := hl.app fun p hp => hr p (by rw [msi.1 hp]; exact mcs ..);rw [fcc];have : tellF (firstF l) (b, y).1 (b, y).2 = firstF (l ++ [(b, y)]) := (firstF_tell hl).symm;rw [this, firstF_tells h1 fun p hp => hr p (List.mem_cons_of_mem _ hp), aas]
  rfl
theorem pr_step {s : SrcL} {i : Nat} {p : ByteArray} (h : s.principals[i]? = some p) :
  tellF (tellF (tellF (firstF (declP s i)) (decide ((i : Int) ≥ 64)) ⟨74, -1, i⟩) (!nameOk p) ⟨1, -1, i⟩) (decide (0 ≤ fiI (s.principals.take i) p)) ⟨70, -1, i⟩ = firstF (declP s (i + 1)) := by
 have e : declP s (i + 1) = declP s i ++ prT s i := range_flat _ _;rw [e, ← firstF_tells (good_declP s i) (good_pr s i)];unfold prT;rw [h]
 rfl
theorem de_step {s : SrcL} {j : Nat} {e : DE} (h : (esN s)[j]? = some e) :
  deX s.principals.length (decide (0 ≤ fiI (((esN s).take j).map DE.name) e.name)) e.i e.most e.name e.long e.label (s.principals.length + j : Nat) (firstF (declP s s.principals.length ++ declE s j)) = firstF (declP s s.principals.length ++ declE s (j + 1)) := by
 have e1 : declE s (j + 1) = declE s j ++ deT s j := range_flat _ _;rw [e1, ← aas, ← firstF_tells ((good_declP s _).app (good_declE s j)) (good_de s j)];unfold deT;rw [h]
 rfl
end Go.Ab
namespace Go.Ab
open Go.Proofs
section
variable {P : Program} {T : Tab} {K : Kn} {nt : NT} {ops : Array Oper} {rest : List Oper} {m : Sy} {s s0 : St} {Q : Sy → St → Prop} {d ty : Nat} {pos : String} {af : Array Edge} {g : Option (Nat × Bool)} {L : List Chunk} {X : List Nat}
theorem ws_makeMap {tt kt et : TypeId} {i : TI} (hS : SH s0 L s X) (hg : guardY ops m g = some true) (hd : Nat.ble (d + 1) nt.n = true) (hT : T tt = some i) (hs : i.sh = .map kt et)
  (k : ∀ g0 z, SH s0 (L ++ [mapC g0 []]) z X → W P T K nt ops rest ((d, .mp g0) :: m) z Q) : W P T K nt ops (⟨some d, .makeMap tt none, ty, pos, af, g⟩ :: rest) m s Q :=
 w_makeMap hg hd hT hs hS.ok fun z hm hk hc => k _ z (hS.add hk (mapC _ []) hm fun x hx => by
   have hx : x = s.ctr := hx;subst hx; omega)
end
theorem RowP.nptr {sz : Nat} {v : AV} {css : List (List AV)} (k : RowP sz v css) : ∀ g j o, v ≠ .ptr g j o := by
 intro g j o e;subst e;exact k.elim
theorem names_next {x : SrcL} {j : Nat} {e : DE} (h : (esN x)[j]? = some e) : ((esN x).take (j + 1)).map DE.name = ((esN x).take j).map DE.name ++ [e.name] := by
 rw [← take_snoc h, List.map_append]; rfl
theorem declarations_ok {s : St} {c : Nat} {vp vg va vc vf : AV} {x : SrcL} (hok : s.Ok) (hx : x.small) (hfi : x.fine) (hv : SrcP x [vp, vg, va, vc, vf]) (hp : Pt s.h (.ptr c 0 0) (ckC vp vg va vc vf ⟨0, 0, 0⟩)) :
  CallS Try.prog Tt Kt 55 [.ptr c 0 0] s fun r s' => Keep [c] s s' ∧ Pt s'.h (.ptr c 0 0) (ckC vp vg va vc vf (firstF (declL x))) ∧ r = .tup [] := by
 have hel := esN_len x;obtain ⟨_, _, _, _, _, e0, hvp, hvg, hva, hvc, csf, hrf, hlf, hF⟩ := id hv;cases e0;obtain ⟨hl1, hl2, hl3, hl4, hl5, hsm⟩ := id hx;have hsf : vf.slen = some x.funcs.length := by rw [hrf.slen, hlf]
 obtain ⟨hf1, hf2, hf3, hf4, hf5⟩ := id hfi;refine cof 130 Try.func55 ?_;refine aq0 ?_;have hS := SH.startX hok hp;have hS : SH s [ptC (.ptr c 0 0) (ckC vp vg va vc vf ⟨0, 0, 0⟩)] s [c] := hS;refine ws_box hS rfl rfl rfl rfl ?_;rintro p1 z hS hk;have hS : SH _ [_, _] z _ := hS;refine aq0 ?_;refine ws_alloc hS rfl rfl rfl rfl ?_;rintro p2 z hS hk;have hS : SH _ [_, _, _] z _ := hS;refine ws_storeL 2 hS rfl rfl rfl rfl rfl rfl (by rfl) (nl rfl) ?_;rintro z hS;have hS : SH _ [_, _, _] z _ := hS;refine aq0 ?_;refine wvz (oL 1 hS) ?_;refine aq3 ?_;refine wvz (v := vp) (oL 0 hS) ?_;refine wvz (op_len rfl rfl rfl rfl rfl (RowP.slen hvp |>.trans (by rw [lmm]))) ?_;refine aq1 ?_;refine wc_loop_at (fun jj m z => ∃ i : Nat, jj = x.principals.length - i ∧ i ≤ x.principals.length ∧ m = [(1, .ptr p1 0 0), (2, .ptr p2 0 0), (19, vp), (20, .int .i64 (x.principals.length : Nat)), (21, .int .i64 (i : Nat))] ∧ SH s [ptC (.ptr c 0 0) (ckC vp vg va vc vf (firstF (declP x i))), ptC (.ptr p1 0 0) [.ptr c 0 0], ptC (.ptr p2 0 0) [.int .i64 (i : Nat)]] z [c]) x.principals.length
  [(1, .ptr p1 0 0), (2, .ptr p2 0 0), (19, vp), (20, .int .i64 (x.principals.length : Nat)), (21, .int .i64 ((0 : Nat) : Int))] (scn rfl (scn rfl (scn rfl (scn rfl (scn rfl (Sub.nil _)))))) ⟨0, by simp, by simp, rfl, hS⟩ ?_
 clear hS;rintro jj m z ⟨i, rfl, hi, rfl, hS⟩;refine aq1 ?_;refine wcd (fun h22 => ?_) (fun h22 => ?_)
 ·have h10 : p1 ≠ c := hS.ne (i := 1) (j := 0) (by decide) rfl rfl (msi.2 rfl) (msi.2 rfl);have h20 : p2 ≠ c := hS.ne (i := 2) (j := 0) (by decide) rfl rfl (msi.2 rfl) (msi.2 rfl);have hcs := (hS.bdX 0 rfl c (msi.2 rfl)).2;refine aq0 ?_;obtain ⟨p, hpi⟩ : ∃ p, x.principals[i]? = some p := ⟨_, gee (by omega)⟩;have hps := hf1 p (mog hpi);refine aq1 ?_;refine wvz (oJ (RowP.up hvp _)) ?_;refine wvz (oM (Row.mk_pt (RowP.up hvp _) hpi)) ?_;refine aq2 ?_;refine wvz (oL 1 hS) ?_;refine aq2 ?_;refine wvz (oL 2 hS) ?_;refine wkz (tell_ok hS.ok (hS.pt 0 rfl)) ?_;rintro _ z ⟨hkX, hpX, rfl⟩;have hS := hS.upd 0 rfl hkX (fun g hg => hg) (ptC (.ptr c 0 0) (ckC vp vg va vc vf _)) hpX (fun g hg => .inl hg);have hS : SH _ [_, _, _] z _ := hS;refine aq0 ?_;have hR := Keep.refl (s := z) (hS.ok);refine wc_draw (Old z [c]) (by kernel_rfl) rfl ?_;refine wo_load hR rfl rfl ((hS.pt 1 rfl).at (nl rfl)) rfl (by simp [AV.gs, h10]) rfl rfl ?_;refine aq1 ?_;refine woc hR (name_ok hR.ok hps) ?_;rintro _ sA ⟨-, rfl⟩ hR;refine aq1 ?_;refine wo_load hR rfl rfl ((hS.pt 2 rfl).at (nl rfl)) rfl (by simp [AV.gs, h20]) rfl rfl ?_;refine wo_callX hR (fun _ h => h) rfl rfl (fun _ => rfl) (op_call rfl rfl rfl rfl) (tell_ok hR.ok (Pt.bare ((hS.pt 0 rfl).keep0 hR))) (fun _ _ h => h.1) ?_;rintro _ sB ⟨-, hpX, rfl⟩ hkX;refine aq0 ?_;have hS := hS.mov hR;have hS := hS.upd 0 rfl hkX (fun g hg => hg) (ptC (.ptr c 0 0) (ckC vp vg va vc vf _)) hpX (fun g hg => .inl hg);generalize sB.join ⟨sA.ctr, z.h, sA.wr ++ z.wr⟩ = z at hS ⊢;have hS : SH _ [_, _, _] z _ := hS;refine aq0 ?_;have hR := Keep.refl (s := z) (hS.ok);refine wc_draw (Old z [c]) (by kernel_rfl) rfl ?_;refine wo_load hR rfl rfl ((hS.pt 1 rfl).at (nl rfl)) rfl (by simp [AV.gs, h10]) rfl rfl ?_;refine wo_load hR rfl rfl ((hS.pt 1 rfl).at (nl rfl)) rfl (by simp [AV.gs, h10]) rfl rfl ?_;refine aq3 ?_;refine wo_loadO rfl rfl ((hS.pt 0 rfl).at (o := 0) (Nat.zero_le _)) (v := vp) rfl rfl rfl ?_;have hcut : RowP 1 (cutA vp 0 i) ((x.principals.take i).map sC) := Row.cutF hvp hi;refine aq1 ?_;refine wo_slice rfl (RowP.nptr hvp) rfl rfl (op_cut (l := none) (h := some i) (l' := 0) (h' := i) rfl rfl (optY_some rfl (natA_cast _ _)) rfl rfl rfl rfl (RowP.up hvp _) rfl rfl (Nat.zero_le _) (by rw [lmm]; exact hi)) ?_;refine aq1 ?_;refine wo_call0 hR rfl rfl (fun _ => rfl) (op_call rfl rfl rfl rfl) (containsS_ok hR.ok (by rw [List.length_take]; omega) hcut) (fun _ _ h => h.1) (by rintro _ _ ⟨-, rfl⟩; rfl) ?_;rintro _ sA ⟨-, rfl⟩ hR;refine wo_load hR rfl rfl ((hS.pt 2 rfl).at (nl rfl)) rfl (by simp [AV.gs, h20]) rfl rfl ?_;refine wo_callX hR (fun _ h => h) rfl rfl (fun _ => rfl) (op_call rfl rfl rfl rfl) (tell_ok hR.ok (Pt.bare ((hS.pt 0 rfl).keep0 hR))) (fun _ _ h => h.1) ?_;rintro _ sB ⟨-, hpX, rfl⟩ hkX;refine aq0 ?_;have hS := hS.mov hR;have hS := hS.upd 0 rfl hkX (fun g hg => hg) (ptC (.ptr c 0 0) (ckC vp vg va vc vf _)) hpX (fun g hg => .inl hg);generalize sB.join ⟨sA.ctr, z.h, sA.wr ++ z.wr⟩ = z at hS ⊢;have hS : SH _ [_, _, _] z _ := hS;refine aq0 ?_;refine wvz (oL 2 hS) ?_;refine wad ?_;refine ws_storeL 2 hS rfl rfl rfl rfl rfl rfl (by rfl) (nl rfl) ?_;rintro z hS;have hS : SH _ [_, _, _] z _ := hS;refine aq0 ?_;refine wad ?_;refine aq1 ?_;have hS : SH s [ptC (.ptr c 0 0) (ckC vp vg va vc vf (firstF (declP x (i + 1)))), ptC (.ptr p1 0 0) [.ptr c 0 0], ptC (.ptr p2 0 0) [.int .i64 ((i + 1 : Nat) : Int)]] z [c] := by rw [← pr_step hpi]; exact hS
  exact rn ⟨i + 1, rfl, by omega, rfl, hS⟩
 obtain rfl : i = x.principals.length := by omega
 refine aq0 ?_;refine ws_makeMap hS rfl rfl rfl rfl ?_;rintro g0 z hS;have hS : SH _ [_, _, _, _] z _ := hS;refine ws_alloc hS rfl rfl rfl rfl ?_;rintro pm z hS hk;have hS : SH _ [_, _, _, _, _] z _ := hS;refine ws_storeL 4 hS rfl rfl rfl rfl rfl rfl (by rfl) (nl rfl) ?_;rintro z hS;have hS : SH _ [_, _, _, _, _] z _ := hS;have hK := hS.K;refine aq2 ?_;have hS : SH s [ptC (.ptr p1 0 0) [.ptr c 0 0], ptC (.ptr p2 0 0) [.int .i64 ((x.principals.length + (0) : Nat) : Int)], ptC (.ptr pm 0 0) [.mp g0], mapC g0 [], ptC (.ptr c 0 0) (ckC vp vg va vc vf (firstF (declP x x.principals.length ++ declE x (0))))] z [c] := by
  have h0 : declE x 0 = [] := rfl;rw [h0, List.append_nil];exact hS.sel [1, 2, 4, 3, 0] rfl (by decide)
 have hs := SeenR.nil;have hse : SeenR [] (((esN x).take 0).map DE.name) := SeenR.nil;refine aq0 ?_;refine wvz (oL 0 hS) ?_;refine aq3 ?_;refine wvz (v := vg) (oL 4 hS) ?_;refine wvz (v := .int .i64 (x.globals.length : Nat)) (op_len rfl rfl rfl rfl rfl (RowP.slen hvg |>.trans (by rw [lmm]))) ?_;refine aq1 ?_;refine wc_loop_at (fun jj m z => ∃ (i : Nat) (es : List (AV × AV)), jj = x.globals.length - i ∧ i ≤ x.globals.length ∧ m = [(1, .ptr p1 0 0), (6, .fn 99 [.ptr p1 0 0, .ptr p2 0 0, .ptr pm 0 0]), (58, vg), (59, .int .i64 (x.globals.length : Nat)), (60, .int .i64 (i : Nat))] ∧ SH s [ptC (.ptr p1 0 0) [.ptr c 0 0], ptC (.ptr p2 0 0) [.int .i64 ((x.principals.length + (i) : Nat) : Int)], ptC (.ptr pm 0 0) [.mp g0], mapC g0 es, ptC (.ptr c 0 0) (ckC vp vg va vc vf (firstF (declP x x.principals.length ++ declE x (i))))] z [c] ∧ SeenR es (((esN x).take (i)).map DE.name)) x.globals.length
  [(1, .ptr p1 0 0), (6, .fn 99 [.ptr p1 0 0, .ptr p2 0 0, .ptr pm 0 0]), (58, vg), (59, .int .i64 (x.globals.length : Nat)), (60, .int .i64 ((0 : Nat) : Int))] (scn rfl (scn rfl (scn rfl (scn rfl (scn rfl (Sub.nil _)))))) ⟨0, _, by simp, by simp, rfl, hS, hse⟩ ?_
 clear hS hse;rintro jj m z ⟨i, es, rfl, hi, rfl, hS, hse⟩;refine aq1 ?_;refine wcd (fun h61 => ?_) (fun h61 => ?_)
 ·refine aq0 ?_;obtain ⟨d, hd⟩ : ∃ d, x.globals[i]? = some d := ⟨_, gee (by omega)⟩;have hfd := hf2 d (mog hd);refine aq1 ?_;refine wvz (oJ (RowP.up hvg _)) ?_;refine wvz (oM (Row.mk_pt (RowP.up hvg z.h) hd)) ?_;refine ws_alloc hS rfl rfl rfl rfl ?_;rintro p5 z hS hk;have hS : SH _ [_, _, _, _, _, _] z _ := hS;refine aq1 ?_;refine ws_store 5 hS rfl rfl rfl rfl rfl rfl (by rfl) (nl rfl) ?_;rintro z hS;have hS : SH _ [_, _, _, _, _, _] z _ := hS;refine aq3 ?_;refine wvz (oL 5 hS) ?_;refine aq1 ?_;refine wvz (oL 5 hS) ?_;refine w_call rfl rfl (op_call rfl rfl rfl rfl) (one_ok (R := [_]) hS (by omega) hfd.1 hse (by rw [lmm, List.length_take]; omega) (by have := RowP.slen hvp; rwa [lmm] at this)) ?_;rintro _ z ⟨⟨es', hS, hse'⟩, rfl⟩;have hst := de_step (esN_g hd);dsimp only at hst;have hS : SH s [ptC (.ptr p1 0 0) [.ptr c 0 0], ptC (.ptr p2 0 0) [.int .i64 ((x.principals.length + ((i) + 1) : Nat) : Int)], ptC (.ptr pm 0 0) [.mp g0], mapC g0 es', ptC (.ptr c 0 0) (ckC vp vg va vc vf (firstF (declP x x.principals.length ++ declE x ((i) + 1))))] z [c] := by rw [← hst]; exact hS.sel [0, 1, 2, 3, 4] rfl (by decide)
  have hse : SeenR es' (((esN x).take ((i) + 1)).map DE.name) := by rw [names_next (esN_g hd)]; exact hse'
  refine aq0 ?_;refine wad ?_;refine aq1 ?_;exact rn ⟨i + 1, _, rfl, by omega, rfl, hS, hse⟩
 obtain rfl : i = x.globals.length := by omega
 refine aq0 ?_;refine wvz (oL 0 hS) ?_;refine aq3 ?_;refine wvz (v := va) (oL 4 hS) ?_;refine wvz (v := .int .i64 (x.arrays.length : Nat)) (op_len rfl rfl rfl rfl rfl (RowP.slen hva |>.trans (by rw [lmm]))) ?_;refine aq1 ?_;refine wc_loop_at (fun jj m z => ∃ (i : Nat) (es : List (AV × AV)), jj = x.arrays.length - i ∧ i ≤ x.arrays.length ∧ m = [(1, .ptr p1 0 0), (6, .fn 99 [.ptr p1 0 0, .ptr p2 0 0, .ptr pm 0 0]), (77, va), (78, .int .i64 (x.arrays.length : Nat)), (79, .int .i64 (i : Nat))] ∧ SH s [ptC (.ptr p1 0 0) [.ptr c 0 0], ptC (.ptr p2 0 0) [.int .i64 ((x.principals.length + (x.globals.length + i) : Nat) : Int)], ptC (.ptr pm 0 0) [.mp g0], mapC g0 es, ptC (.ptr c 0 0) (ckC vp vg va vc vf (firstF (declP x x.principals.length ++ declE x (x.globals.length + i))))] z [c] ∧ SeenR es (((esN x).take (x.globals.length + i)).map DE.name)) x.arrays.length
  [(1, .ptr p1 0 0), (6, .fn 99 [.ptr p1 0 0, .ptr p2 0 0, .ptr pm 0 0]), (77, va), (78, .int .i64 (x.arrays.length : Nat)), (79, .int .i64 ((0 : Nat) : Int))] (scn rfl (scn rfl (scn rfl (scn rfl (scn rfl (Sub.nil _)))))) ⟨0, _, by simp, by simp, rfl, hS, hse⟩ ?_
 clear hS hse;rintro jj m z ⟨i, es, rfl, hi, rfl, hS, hse⟩;refine aq1 ?_;refine wcd (fun h80 => ?_) (fun h80 => ?_)
 ·refine aq0 ?_;obtain ⟨d, hd⟩ : ∃ d, x.arrays[i]? = some d := ⟨_, gee (by omega)⟩;have hfd := hf3 d (mog hd);refine aq1 ?_;refine wvz (oJ (RowP.up hva _)) ?_;refine wvz (oM (Row.mk_pt (RowP.up hva z.h) hd)) ?_;refine ws_alloc hS rfl rfl rfl rfl ?_;rintro p5 z hS hk;have hS : SH _ [_, _, _, _, _, _] z _ := hS;refine aq1 ?_;refine ws_store 5 hS rfl rfl rfl rfl rfl rfl (by rfl) (nl rfl) ?_;rintro z hS;have hS : SH _ [_, _, _, _, _, _] z _ := hS;refine aq3 ?_;refine wvz (oL 5 hS) ?_;refine aq1 ?_;refine wvz (oL 5 hS) ?_;refine aq1 ?_;refine wvz (oL 5 hS) ?_;refine w_call rfl rfl (op_call rfl rfl rfl rfl) (one_ok (R := [_]) hS (by omega) hfd.1 hse (by rw [lmm, List.length_take]; omega) (by have := RowP.slen hvp; rwa [lmm] at this)) ?_;rintro _ z ⟨⟨es', hS, hse'⟩, rfl⟩;have hst := de_step (esN_a hd);dsimp only at hst;have hS : SH s [ptC (.ptr p1 0 0) [.ptr c 0 0], ptC (.ptr p2 0 0) [.int .i64 ((x.principals.length + ((x.globals.length + i) + 1) : Nat) : Int)], ptC (.ptr pm 0 0) [.mp g0], mapC g0 es', ptC (.ptr c 0 0) (ckC vp vg va vc vf (firstF (declP x x.principals.length ++ declE x ((x.globals.length + i) + 1))))] z [c] := by rw [← hst]; exact hS.sel [0, 1, 2, 3, 4] rfl (by decide)
  have hse : SeenR es' (((esN x).take ((x.globals.length + i) + 1)).map DE.name) := by rw [names_next (esN_a hd)]; exact hse'
  refine aq0 ?_;refine wad ?_;refine aq1 ?_;exact rn ⟨i + 1, _, rfl, by omega, rfl, hS, hse⟩
 obtain rfl : i = x.arrays.length := by omega
 refine aq0 ?_;refine wvz (oL 0 hS) ?_;refine aq3 ?_;refine wvz (v := vc) (oL 4 hS) ?_;refine wvz (v := .int .i64 (x.channels.length : Nat)) (op_len rfl rfl rfl rfl rfl (RowP.slen hvc |>.trans (by rw [lmm]))) ?_;refine aq1 ?_;refine wc_loop_at (fun jj m z => ∃ (i : Nat) (es : List (AV × AV)), jj = x.channels.length - i ∧ i ≤ x.channels.length ∧ m = [(1, .ptr p1 0 0), (6, .fn 99 [.ptr p1 0 0, .ptr p2 0 0, .ptr pm 0 0]), (98, vc), (99, .int .i64 (x.channels.length : Nat)), (100, .int .i64 (i : Nat))] ∧ SH s [ptC (.ptr p1 0 0) [.ptr c 0 0], ptC (.ptr p2 0 0) [.int .i64 ((x.principals.length + (x.globals.length + x.arrays.length + i) : Nat) : Int)], ptC (.ptr pm 0 0) [.mp g0], mapC g0 es, ptC (.ptr c 0 0) (ckC vp vg va vc vf (firstF (declP x x.principals.length ++ declE x (x.globals.length + x.arrays.length + i))))] z [c] ∧ SeenR es (((esN x).take (x.globals.length + x.arrays.length + i)).map DE.name)) x.channels.length
  [(1, .ptr p1 0 0), (6, .fn 99 [.ptr p1 0 0, .ptr p2 0 0, .ptr pm 0 0]), (98, vc), (99, .int .i64 (x.channels.length : Nat)), (100, .int .i64 ((0 : Nat) : Int))] (scn rfl (scn rfl (scn rfl (scn rfl (scn rfl (Sub.nil _)))))) ⟨0, _, by simp, by simp, rfl, hS, hse⟩ ?_
 clear hS hse;rintro jj m z ⟨i, es, rfl, hi, rfl, hS, hse⟩;refine aq1 ?_;refine wcd (fun h101 => ?_) (fun h101 => ?_)
 ·refine aq0 ?_;obtain ⟨d, hd⟩ : ∃ d, x.channels[i]? = some d := ⟨_, gee (by omega)⟩;have hfd := hf4 d (mog hd);refine aq1 ?_;refine wvz (oJ (RowP.up hvc _)) ?_;refine wvz (oM (Row.mk_pt (RowP.up hvc z.h) hd)) ?_;refine ws_alloc hS rfl rfl rfl rfl ?_;rintro p5 z hS hk;have hS : SH _ [_, _, _, _, _, _] z _ := hS;refine aq1 ?_;refine ws_store 5 hS rfl rfl rfl rfl rfl rfl (by rfl) (nl rfl) ?_;rintro z hS;have hS : SH _ [_, _, _, _, _, _] z _ := hS;refine aq3 ?_;refine wvz (oL 5 hS) ?_;refine aq1 ?_;refine wvz (oL 5 hS) ?_;refine w_call rfl rfl (op_call rfl rfl rfl rfl) (one_ok (R := [_]) hS (by omega) hfd.1 hse (by rw [lmm, List.length_take]; omega) (by have := RowP.slen hvp; rwa [lmm] at this)) ?_;rintro _ z ⟨⟨es', hS, hse'⟩, rfl⟩;have hst := de_step (esN_c hd);dsimp only at hst;have hS : SH s [ptC (.ptr p1 0 0) [.ptr c 0 0], ptC (.ptr p2 0 0) [.int .i64 ((x.principals.length + ((x.globals.length + x.arrays.length + i) + 1) : Nat) : Int)], ptC (.ptr pm 0 0) [.mp g0], mapC g0 es', ptC (.ptr c 0 0) (ckC vp vg va vc vf (firstF (declP x x.principals.length ++ declE x ((x.globals.length + x.arrays.length + i) + 1))))] z [c] := by rw [← hst]; exact hS.sel [0, 1, 2, 3, 4] rfl (by decide)
  have hse : SeenR es' (((esN x).take ((x.globals.length + x.arrays.length + i) + 1)).map DE.name) := by rw [names_next (esN_c hd)]; exact hse'
  refine aq0 ?_;refine wad ?_;refine aq1 ?_;exact rn ⟨i + 1, _, rfl, by omega, rfl, hS, hse⟩
 obtain rfl : i = x.channels.length := by omega
 refine aq0 ?_;refine wvz (oL 0 hS) ?_;refine aq3 ?_;refine wvz (v := vf) (oL 4 hS) ?_;refine wvz (v := .int .i64 (x.funcs.length : Nat)) (oN hsf) ?_;refine aq1 ?_;refine wc_loop_at (fun jj m z => ∃ (i : Nat) (es : List (AV × AV)), jj = x.funcs.length - i ∧ i ≤ x.funcs.length ∧ m = [(1, .ptr p1 0 0), (6, .fn 99 [.ptr p1 0 0, .ptr p2 0 0, .ptr pm 0 0]), (117, vf), (118, .int .i64 (x.funcs.length : Nat)), (119, .int .i64 (i : Nat))] ∧ SH s [ptC (.ptr p1 0 0) [.ptr c 0 0], ptC (.ptr p2 0 0) [.int .i64 ((x.principals.length + (x.globals.length + x.arrays.length + x.channels.length + i) : Nat) : Int)], ptC (.ptr pm 0 0) [.mp g0], mapC g0 es, ptC (.ptr c 0 0) (ckC vp vg va vc vf (firstF (declP x x.principals.length ++ declE x (x.globals.length + x.arrays.length + x.channels.length + i))))] z [c] ∧ SeenR es (((esN x).take (x.globals.length + x.arrays.length + x.channels.length + i)).map DE.name)) x.funcs.length
  [(1, .ptr p1 0 0), (6, .fn 99 [.ptr p1 0 0, .ptr p2 0 0, .ptr pm 0 0]), (117, vf), (118, .int .i64 (x.funcs.length : Nat)), (119, .int .i64 ((0 : Nat) : Int))] (scn rfl (scn rfl (scn rfl (scn rfl (scn rfl (Sub.nil _)))))) ⟨0, _, by simp, by simp, rfl, hS, hse⟩ ?_
 clear hS hse;rintro jj m z ⟨i, es, rfl, hi, rfl, hS, hse⟩;refine aq1 ?_;refine wcd (fun h120 => ?_) (fun h120 => ?_)
 ·refine aq0 ?_;obtain ⟨d, hd⟩ : ∃ d, x.funcs[i]? = some d := ⟨_, gee (by omega)⟩;have hfd := hf5 d (mog hd);obtain ⟨cy, hcy⟩ : ∃ c, csf[i]? = some c := ⟨_, gee (by omega)⟩;obtain ⟨yp, yr, yv, yb, rfl, hyp, hyr, hyv, hyb⟩ := hF i d cy hd hcy;have hzy : ([.str d.name, .int .u64 d.level, yp, yr, yv, yb] : List AV).all AV.leaf = true := by
   obtain ⟨css, h5, -⟩ := id hyb;simp only [List.all_cons, List.all_nil, hyp.leaf, hyr.leaf, hyv.leaf, h5.leaf]; rfl
  refine aq1 ?_;refine wvz (oI (RowP.up hrf _)) ?_;refine wvz (oM (Row.pt (RowP.up hrf z.h) hcy)) ?_;refine ws_alloc hS rfl rfl rfl rfl ?_;rintro p5 z hS hk;have hS : SH _ [_, _, _, _, _, _] z _ := hS;have hK := hS.K;refine aq1 ?_;refine ws_store 5 hS rfl rfl rfl rfl rfl rfl (by assumption) (nl rfl) ?_;rintro z hS;have hS : SH _ [_, _, _, _, _, _] z _ := hS;refine aq3 ?_;refine wvz (oL 5 hS) ?_;refine w_call rfl rfl (op_call rfl rfl rfl rfl) (one_ok (R := [_]) hS (by omega) hfd.1 hse (by rw [lmm, List.length_take]; omega) (by have := RowP.slen hvp; rwa [lmm] at this)) ?_;rintro _ z ⟨⟨es', hS, hse'⟩, rfl⟩;have hst := de_step (esN_f hd);dsimp only at hst;have hS : SH s [ptC (.ptr p1 0 0) [.ptr c 0 0], ptC (.ptr p2 0 0) [.int .i64 ((x.principals.length + ((x.globals.length + x.arrays.length + x.channels.length + i) + 1) : Nat) : Int)], ptC (.ptr pm 0 0) [.mp g0], mapC g0 es', ptC (.ptr c 0 0) (ckC vp vg va vc vf (firstF (declP x x.principals.length ++ declE x ((x.globals.length + x.arrays.length + x.channels.length + i) + 1))))] z [c] := by rw [← hst]; exact hS.sel [0, 1, 2, 3, 4] rfl (by decide)
  have hse : SeenR es' (((esN x).take ((x.globals.length + x.arrays.length + x.channels.length + i) + 1)).map DE.name) := by rw [names_next (esN_f hd)]; exact hse'
  refine aq0 ?_;refine wad ?_;refine aq1 ?_;exact rn ⟨i + 1, _, rfl, by omega, rfl, hS, hse⟩
 obtain rfl : i = x.funcs.length := by omega
 refine aq0 ?_;have hpc := hS.pt 4 rfl;rw [← esN_len] at hpc;exact ⟨_, rfl, hS.K, hpc, rfl⟩
-- unused hook: lf29.3
end Go.Ab
namespace Go.Ab
open Go.Proofs
def ckP (c : Nat) (vp vg va vc vf : AV) (x : Flt) : Chunk := ptC (.ptr c 0 0) (ckC vp vg va vc vf x)
theorem tell_sh {s0 z : St} {X : List Nat} {R : List Chunk} {c : Nat} {vp vg va vc vf : AV} {x : Flt} {b : Bool} {e f a : Int} (hS : SH s0 (ckP c vp vg va vc vf x :: R) z X) :
  CallS Try.prog Tt Kt 96 [.ptr c 0 0, .bool b, .int .i64 e, .int .i64 f, .int .i64 a] z fun r z' => SH s0 (ckP c vp vg va vc vf (tellF x b ⟨e, f, a⟩) :: R) z' X ∧ r = .tup [] :=
 (tell_ok hS.ok (hS.pt 0 rfl)).mono fun _r _z' ⟨hk, hp, hr⟩ => ⟨hS.upd 0 rfl hk (fun _g hg => hg) (ckP c vp vg va vc vf _) hp (fun _g hg => .inl hg), hr⟩
def inZ (ks : List Int) (k : Int) : Bool := decide (0 ≤ idxQ (fun i => ks.getD i 0 == k) ks.length)
theorem inZ_iff {ks : List Int} {k : Int} : inZ ks k = true ↔ k ∈ ks := by
 unfold inZ;rw [dtt];unfold idxQ
 constructor
 ·intro h;cases hf : (List.range ks.length).find? fun i => ks.getD i 0 == k with
  | none => rw [hf] at h; simp only at h; omega
  | some i =>
   have h1 := List.find?_some hf;have h2 := List.mem_of_find?_eq_some hf;simp only [List.mem_range] at h2;rw [beq_iff_eq, gdd, gee h2] at h1;rw [← h1]; exact List.getElem_mem h2
 ·intro h;obtain ⟨i, hi⟩ := List.getElem?_of_mem h;have hl := (ges.1 hi).1;cases hf : (List.range ks.length).find? fun i => ks.getD i 0 == k with
  | some j => simp only; omega
  | none =>
   rw [List.find?_eq_none] at hf;have := hf i (by simpa using hl);rw [gdd, hi] at this;simp at this
def deepA (ks : List Int) : Nat → Int × Int
 | 0 => (0, 0)
 | i + 1 => if ks.getD i 0 = 5 ∨ ks.getD i 0 = 7 then ((deepA ks i).1 + 1, if (deepA ks i).2 < (deepA ks i).1 + 1 then (deepA ks i).1 + 1 else (deepA ks i).2)
  else if ks.getD i 0 = 8 then ((deepA ks i).1 - 1, (deepA ks i).2) else deepA ks i
theorem deepA_b (ks : List Int) : ∀ i : Nat, -(i : Int) ≤ (deepA ks i).1 ∧ (deepA ks i).1 ≤ i ∧ 0 ≤ (deepA ks i).2 ∧ (deepA ks i).2 ≤ i
 | 0 => by simp [deepA]
 | i + 1 => by
  have := deepA_b ks i;unfold deepA;split
  ·simp only; split <;> omega
  ·split
   ·simp only; omega
   ·omega
def useT (s : SrcL) (f a : Int) (nm : ByteArray) (ks : List Int) : List (Bool × Flt) := [(!((fN s f nm).1 != 0), ⟨71, f, a⟩), (!inZ ks (fN s f nm).1, ⟨72, f, a⟩)]
theorem indexZ_ok {s : St} {v : AV} {ks : List Int} {k : Int} (hok : s.Ok) (hl : ks.length ≤ 2097152) (hv : RowP 1 v (ks.map iC)) :
  CallS Try.prog Tt Kt 153 [v, .int .i64 k] s fun r s' => Keep [] s s' ∧ r = .int .i64 (idxQ (fun i => ks.getD i 0 == k) ks.length) := by
 refine cof 19 Try.func153 ?_;refine aq0 ?_;have hK := Keep.refl hok;refine aq2 ?_;refine wvz (op_len rfl rfl rfl rfl rfl (RowP.slen hv |>.trans (by rw [lmm]))) ?_;refine aq1 ?_;refine wc_loop_at (fun jj m z => ∃ i : Nat, jj = ks.length - i ∧ i ≤ ks.length ∧ m = [(0, v), (1, .int .i64 k), (7, .int .i64 (ks.length : Nat)), (8, .int .i64 (i : Nat))] ∧ z = s ∧ ∀ j, j < i → (ks.getD j 0 == k) = false) ks.length
  [(0, v), (1, .int .i64 k), (7, .int .i64 (ks.length : Nat)), (8, .int .i64 ((0 : Nat) : Int))] (scn rfl (scn rfl (scn rfl (scn rfl (Sub.nil _))))) ⟨0, by simp, by simp, rfl, rfl, fun j h => by omega⟩ ?_
 rintro jj m z ⟨i, rfl, hi, rfl, eX, hq⟩;obtain rfl := eX.symm;refine aq1 ?_;refine wcd (fun h9 => ?_) (fun h9 => ?_)
 ·refine aq0 ?_;obtain ⟨n, hn⟩ : ∃ n, ks[i]? = some n := ⟨_, gee (by omega)⟩;have hgn : ks.getD i 0 = n := by rw [gdd, hn]; rfl
  refine aq5 ?_;refine wvz (oJ (RowP.up hv _)) ?_;refine wvz (oM (Row.mk_pt (RowP.up hv _) hn)) ?_;refine aq1 ?_;refine wc_condT rfl (fun h16 => ?_) (fun h16 => ?_)
  ·have hq1 : (ks.getD i 0 == k) = true := by rw [hgn, BEq.comm]; exact h16
   refine aq2 ?_;exact ⟨_, rfl, hK, by rw [idxQ_hit hq (by omega) hq1]; rfl⟩
  have hq1 : (ks.getD i 0 == k) = false := by rw [hgn, BEq.comm]; exact h16
  refine aq0 ?_;refine wad ?_;refine aq1 ?_;exact rn ⟨i + 1, rfl, by omega, rfl, rfl, fun j hj => (lsl.1 hj).elim (hq j) fun e => by rw [e]; exact hq1⟩
 obtain rfl : i = ks.length := by omega
 refine aq1 ?_;exact ⟨_, rfl, hK, by rw [idxQ_none hq]; rfl⟩
theorem containsZ_ok {s : St} {v : AV} {ks : List Int} {k : Int} (hok : s.Ok) (hl : ks.length ≤ 2097152) (hv : RowP 1 v (ks.map iC)) :
  CallS Try.prog Tt Kt 141 [v, .int .i64 k] s fun r s' => Keep [] s s' ∧ r = .bool (inZ ks k) := by
 refine cof 9 Try.func141 ?_;refine aq0 ?_;have hS := SH.start hok;refine aq3 ?_;refine wkz (indexZ_ok hok hl hv) ?_;rintro _ z ⟨hk, rfl⟩;have hS := hS.mov hk;have hK := hS.K;refine aq2 ?_;exact ⟨_, rfl, hK, rfl⟩
theorem deep_ok {s : St} {v : AV} {ks : List Int} (hok : s.Ok) (hkl : ks.length ≤ 2097152) (hkv : KindsR .leaf v ks) :
  CallS Try.prog Tt Kt 105 [v] s fun r s' => Keep [] s s' ∧ r = .int .i64 (deepA ks ks.length).2 := by
 obtain ⟨css, hv, hl, hV⟩ := hkv;refine cof 28 Try.func105 ?_;refine aq0 ?_;have hS := SH.start hok;have hK := hS.K;refine aq3 ?_;refine wvz (v := .int .i64 (ks.length : Nat)) (op_len rfl rfl rfl rfl rfl (RowP.slen hv |>.trans (by rw [hl]))) ?_;refine aq1 ?_;refine wc_loop_at (fun jj m z => ∃ i : Nat, jj = ks.length - i ∧ i ≤ ks.length ∧ m = [(2, .int .i64 (deepA ks i).2), (3, .int .i64 (deepA ks i).1), (6, v), (7, .int .i64 (ks.length : Nat)), (8, .int .i64 (i : Nat))] ∧ Keep [] s z) ks.length
  [(2, .int .i64 0), (3, .int .i64 0), (6, v), (7, .int .i64 (ks.length : Nat)), (8, .int .i64 ((0 : Nat) : Int))] (scn rfl (scn rfl (scn rfl (scn rfl (scn rfl (Sub.nil _)))))) ⟨0, by simp, by simp, rfl, hK⟩ ?_
 clear hS hK;rintro jj m z ⟨i, rfl, hi, rfl, hK⟩;have hS := SH.of hK;have hb := deepA_b ks i;refine aq1 ?_;refine wcd (fun h9 => ?_) (fun h9 => ?_)
 ·refine aq0 ?_;obtain ⟨k, hk⟩ : ∃ k, ks[i]? = some k := ⟨_, gee (by omega)⟩;obtain ⟨cy, hcy⟩ : ∃ c, css[i]? = some c := ⟨_, gee (by omega)⟩;obtain ⟨ca, cb, cd, rfl⟩ := hV i k cy hk hcy;have hgk : ks.getD i 0 = k := gD hk;obtain ⟨hcl, hcz⟩ := hv.cells _ (mog hcy);refine aq0 ?_;refine wvz (oI (RowP.up hv _)) ?_;refine wvz (oM (Row.pt (RowP.up hv z.h) hcy)) ?_;refine ws_alloc hS rfl rfl rfl rfl ?_;rintro p0 z hS hk;have hS : SH _ [_] z _ := hS;refine ws_store 0 hS rfl rfl rfl rfl rfl rfl hcz (nl rfl) ?_;rintro z hS;have hS : SH _ [_] z _ := hS;have hK := hS.K;refine aq1 ?_;refine wvz (oL 0 hS) ?_;refine aq2 ?_;refine wcb (fun h14 => ?_) (fun h14 => ?_)
  ·refine aq0 ?_;refine wc_cond_t rfl ?_;refine aq1 ?_;refine wad ?_;refine aq3 ?_;refine wvz (op_max rfl rfl rfl) ?_;refine aq1 ?_;refine wad ?_;refine aq1 ?_
   first
   | exact rn ⟨i + 1, rfl, by omega, by rw [deepA, if_pos (by omega)], hK⟩
   | exact rn ⟨i + 1, rfl, by omega, by rw [deepA, if_neg (by omega), if_pos (by omega)], hK⟩
   | exact rn ⟨i + 1, rfl, by omega, by rw [deepA, if_neg (by omega), if_neg (by omega)], hK⟩
  refine aq2 ?_;refine wcb (fun h14 => ?_) (fun h14 => ?_)
  ·refine aq1 ?_;refine wad ?_;refine aq3 ?_;refine wvz (op_max rfl rfl rfl) ?_;refine aq1 ?_;refine wad ?_;refine aq1 ?_
   first
   | exact rn ⟨i + 1, rfl, by omega, by rw [deepA, if_pos (by omega)], hK⟩
   | exact rn ⟨i + 1, rfl, by omega, by rw [deepA, if_neg (by omega), if_pos (by omega)], hK⟩
   | exact rn ⟨i + 1, rfl, by omega, by rw [deepA, if_neg (by omega), if_neg (by omega)], hK⟩
  refine aq2 ?_;refine wcb (fun h22 => ?_) (fun h22 => ?_)
  ·refine aq1 ?_;refine wvz (op_sub rfl rfl (by unfold In64; omega)) ?_;refine aq1 ?_;refine wad ?_;refine aq1 ?_
   first
   | exact rn ⟨i + 1, rfl, by omega, by rw [deepA, if_pos (by omega)], hK⟩
   | exact rn ⟨i + 1, rfl, by omega, by rw [deepA, if_neg (by omega), if_pos (by omega)], hK⟩
   | exact rn ⟨i + 1, rfl, by omega, by rw [deepA, if_neg (by omega), if_neg (by omega)], hK⟩
  refine aq0 ?_;refine wad ?_;refine aq1 ?_
  first
  | exact rn ⟨i + 1, rfl, by omega, by rw [deepA, if_pos (by omega)], hK⟩
  | exact rn ⟨i + 1, rfl, by omega, by rw [deepA, if_neg (by omega), if_pos (by omega)], hK⟩
  | exact rn ⟨i + 1, rfl, by omega, by rw [deepA, if_neg (by omega), if_neg (by omega)], hK⟩
 obtain rfl : i = ks.length := by omega
 refine aq2 ?_;exact ⟨_, rfl, hK, rfl⟩
theorem SH.less {s0 s : St} {X : List Nat} {a b : Chunk} {R : List Chunk} (h : SH s0 (a :: b :: R) s X) (_k : Nat) : SH s0 (a :: R) s X := by
 refine ⟨h.K, fun i c hi => ?_, fun i j c d hij hi hj => ?_⟩
 ·cases i with
  | zero => exact h.own 0 c hi
  | succ i => exact h.own (i + 2) c hi
 ·have key : ∀ (i : Nat) (c : Chunk), (a :: R)[i]? = some c → (a :: b :: R)[if i = 0 then 0 else i + 1]? = some c := by
   intro i c hi;cases i with
   | zero => exact hi
   | succ i => simpa using hi
  refine h.dis (if i = 0 then 0 else i + 1) (if j = 0 then 0 else j + 1) c d ?_ (key i c hi) (key j d hj);split <;> split <;> omega
theorem use_ok {s0 z : St} {X : List Nat} {R : List Chunk} {c : Nat} {vp vg va vc vf v : AV} {x : SrcL} {x0 : Flt} {f a : Int} {nm : ByteArray} {ks : List Int} (hS : SH s0 (ckP c vp vg va vc vf x0 :: R) z X) (hx : x.small) (hv : SrcP x [vp, vg, va, vc, vf]) (hkl : ks.length ≤ 2097152) (hkv : RowP 1 v (ks.map iC)) :
  CallS Try.prog Tt Kt 111 [.ptr c 0 0, .int .i64 f, .int .i64 a, .str nm, v] z fun r z' => SH s0 (ckP c vp vg va vc vf ((useT x f a nm ks).foldl (fun y p => tellF y p.1 p.2) x0) :: R) z' X ∧ r = .tup [] := by
 refine cof 37 Try.func111 ?_;refine aq3 ?_;refine wvz (v := .agg [vp, vg, va, vc, vf]) (oM ((hS.pt 0 rfl).at (o := 0) (Nat.zero_le _))) ?_;refine aq2 ?_;refine wkz (find_ok hS.ok hx hv) ?_;rintro _ z ⟨hk, rfl⟩;have hS := hS.mov hk;refine aq3 ?_;refine ws_alloc hS rfl rfl rfl rfl ?_;rintro p1 z hS hk;have hS : SH _ (_ :: _ :: R) z _ := hS.perm (.cons _ (List.perm_append_singleton _ _));refine ws_store 1 hS rfl rfl rfl rfl rfl rfl (by rfl) (nl rfl) ?_;rintro z hS;have hS : SH _ (_ :: _ :: R) z _ := hS;refine aq6 ?_;refine wkz (tell_sh hS) ?_;rintro _ z ⟨hS, rfl⟩;refine aq3 ?_;refine wvz (oL 1 hS) ?_;refine wkz (containsZ_ok hS.ok hkl hkv) ?_;rintro _ z ⟨hk, rfl⟩;have hS := hS.mov hk;refine aq3 ?_;refine wkz (tell_sh hS) ?_;rintro _ z ⟨hS, rfl⟩;refine aq0 ?_;exact ⟨_, rfl, hS.less 1, rfl⟩
section
variable {T : Tab} {call : FuncId → List AV → St → Option (End × St)} {ops : Array Oper}
theorem hoist_ref {D : Nat → Prop} : ∀ (l : List Oper) {s z z0 : St} {hs : List (Option (Nat × List AV))}, StZ D s z → hoist false T l [] z = some (z0, hs) → ∃ s0, hoist false T l [] s = some (s0, hs) ∧ StepZ D s z s0 z0 ∧ hs.length = l.length
 | [], s, z, z0, hs, k, h => by cases h; exact ⟨s, rfl, .refl k, rfl⟩
 | o :: l, s, z, z0, hs, k, h => by
  rw [hoist] at h ⊢;by_cases he : Oper.early false o = true
  ·rw [if_pos he] at h ⊢;cases hc : earlyCells T (([] : List (List AV)).headD []) o.op with
   | none => rw [hc] at h; cases h
   | some cs =>
    rw [hc] at h;simp only at h ⊢;split at h
    ·rename_i hl;rw [if_pos hl];cases hr : hoist false T l ([] : List (List AV)).tail (z.newG (earlyG cs o.op)) with
     | none => rw [hr] at h; cases h
     | some q =>
      obtain ⟨z1, hs1⟩ := q;rw [hr] at h;cases h;have k1 := StepZ.newG k (GZ.refl (h := s.h) (D := D) (earlyG cs o.op));obtain ⟨s0, e1, e2, e3⟩ := hoist_ref l k1.st hr;refine ⟨s0, ?_, k1.trans e2, by rw [lcc, lcc, e3]⟩;rw [show ([] : List (List AV)).tail = [] from rfl, e1, k.ctr]
    ·cases h
  ·rw [if_neg he] at h ⊢;cases hr : hoist false T l ([] : List (List AV)).tail z with
   | none => rw [hr] at h; cases h
   | some q =>
    obtain ⟨z1, hs1⟩ := q;rw [hr] at h;cases h;obtain ⟨s0, e1, e2, e3⟩ := hoist_ref l k hr;refine ⟨s0, ?_, e2, by rw [lcc, lcc, e3]⟩;rw [show ([] : List (List AV)).tail = [] from rfl, e1]
theorem evLog_kindsH : ∀ (l : List Oper) (hs : List (Option (Nat × List AV))) {t t' : TL} {s s' : St} {es : List Entry}, evLog T call ops l hs t s = some (t', s', es) → ∀ (i : Nat) (e : Entry) (o : Oper), es[i]? = some e → l[i]? = some o → (e.rd ≠ none → Op.readB o.op = true) ∧ (e.wr ≠ [] → Op.eff o.op = true)
 | [], hs, t, t', s, s', es, h => by
  cases hs <;> (cases h; intro i e o h; simp at h)
 | o :: l, [], t, t', s, s', es, h => by cases h; intro i e o h; simp at h
 | o :: l, some (c, cs) :: hs, t, t', s, s', es, h => by
  rw [evLog] at h;split at h
  ·cases h
  ·rename_i v hv;split at h
   ·cases h
   ·rename_i t2 s2 l2 h2;cases h;have k2 := evLog_kindsH l hs h2;intro i e o' he ho;cases i with
    | succ i => exact k2 i e o' (by simpa using he) (by simpa using ho)
    | zero =>
     simp only [List.getElem?_cons_zero, sjj] at he ho;subst he ho;exact ⟨fun h => (h rfl).elim, fun h => (h rfl).elim⟩
 | o :: l, none :: hs, t, t', s, s', es, h => by
  rw [evLog] at h;split at h
  ·cases h
  ·rename_i t1 s1 h1;split at h
   ·cases h
   ·rename_i t2 s2 l2 h2;cases h;have k2 := evLog_kindsH l hs h2;intro i e o' he ho;cases i with
    | succ i => exact k2 i e o' (by simpa using he) (by simpa using ho)
    | zero =>
     simp only [List.getElem?_cons_zero, sjj] at he ho;subst he ho;refine ⟨fun hr => ?_, fun hw => ?_⟩
     ·simp only at hr;split at hr
      ·revert hr;cases o.op <;> first | (intro _; rfl) | (intro hr; exact (hr rfl).elim)
      ·exact (hr rfl).elim
     ·simp only at hw;cases hf : Op.eff o.op with
      | true => rfl
      | false =>
       exfalso
       apply hw
       unfold evStep at h1;split at h1
       ·cases h1
       ·cases h1; rfl
       ·split at h1
        ·cases h1
        ·rename_i hv; cases h1; rw [(still_op hv hf).1]
        ·rename_i hv; obtain ⟨-, v, e⟩ := still_op hv hf; cases e
        ·rename_i hv; obtain ⟨-, v, e⟩ := still_op hv hf; cases e
theorem logOk_k {Dd D : Nat → Prop} {es : List Entry} (hlen : es.length = ops.size) (hk : ∀ (i : Nat) (e : Entry) (o : Oper), es[i]? = some e → ops.toList[i]? = some o → (e.rd ≠ none → Op.readB o.op = true) ∧ (e.wr ≠ [] → Op.eff o.op = true)) (hz : LogZ ops Dd es D) : logOk (Region.before ops) es = true := by
 unfold logOk;rw [aet];intro i _;cases hi : es[i]? with
 | none => rfl
 | some x =>
  obtain ⟨Di, -, -, hal, -⟩ := hz.at hi;simp only [hal, Bool.and_true];cases hrd : x.rd with
  | none => rfl
  | some g =>
   simp only;rw [aet];intro e _;cases he : es[e]? with
   | none => simp
   | some y =>
    simp only;have hil : i < ops.size := by
     have := (ges.1 hi).1;omega
    have hel : e < ops.size := by
     have := (ges.1 he).1;omega
    cases hro : rdAt ops (es.length - 1 - i) with
    | true =>
     cases hw : y.wr.contains g with
     | false => simp
     | true =>
      have h2 := (hk e y ops[e] he (by simp [hel])).2 (fun h => by rw [h] at hw; simp at hw);unfold rdAt at hro;rw [aet] at hro;have h3 := hro e (by simp [hel]);rw [Array.getElem?_eq_getElem hel] at h3;simp only [h2, Bool.not_true, Bool.false_or] at h3;rw [show ops.size - (es.length - 1 - i + 1) = i by omega] at h3;rw [h3]; rfl
    | false =>
    by_cases hc : i ≤ e
    ·have := hz.later hi he hc hro g hrd;have : y.wr.contains g = false := by
      cases hc : y.wr.contains g with
      | false => rfl
      | true => exact absurd (by simpa using hc) this
     rw [this]; simp
    ·have hei : e < i := by omega
     cases hw : y.wr.contains g with
     | false => simp
     | true =>
      obtain ⟨j, hj1, hj2, hf⟩ := hz.ahead hi he hei hro hrd (by simpa using hw);have h1 := (hk i x ops[i] hi (by simp [hil])).1 (by rw [hrd]; simp);have h2 := (hk e y ops[e] he (by simp [hel])).2 (fun h => by rw [h] at hw; simp at hw);unfold fzAt at hf;rw [aet] at hf;have h3 := hf i (by simp [hil]);rw [aet] at h3;have h4 := h3 e (by simp [hel]);rw [Array.getElem?_eq_getElem hil, Array.getElem?_eq_getElem hel] at h4;have b1 : Nat.ble (ops.size - (es.length - 1 - j)) i = true := Nat.ble_eq_true_of_le (by omega);have b2 : Nat.ble (e + 1 + (es.length - 1 - j)) ops.size = true := Nat.ble_eq_true_of_le (by omega);simp only [h1, h2, b1, b2, Bool.and_self, Bool.not_true, Bool.false_or] at h4;rw [h4]; rfl
def noAl (e : Entry) : Entry := ⟨e.rd, e.wr, none⟩
def EarZ (ops : Array Oper) (A : List (Nat × Nat)) (j : Nat) (es : List Entry) : Prop :=
 ∀ (i : Nat) (e : Entry), es[i]? = some e → (∀ g, e.al = some g → (j + i, g) ∈ A) ∧ ∀ g ∈ e.wr, ∀ p ∈ A, p.2 = g → aheadB (Region.before ops) p.1 (j + i) = true
theorem logOk_e {A : List (Nat × Nat)} {es : List Entry} (h : logOk (Region.before ops) (es.map noAl) = true) (k : EarZ ops A 0 es) : logOk (Region.before ops) es = true := by
 unfold logOk at h ⊢;rw [aet] at h ⊢;intro i hi;have h1 := h i (by simpa using hi);cases he : es[i]? with
 | none => rfl
 | some x =>
  rw [gmm, he] at h1;simp only [Option.map_some, noAl, Bool.and_true, lmm, gmm] at h1;simp only [Bool.and_eq_true]
  constructor
  ·cases hrd : x.rd with
   | none => rfl
   | some g =>
    rw [hrd] at h1;simp only at h1 ⊢;rw [aet] at h1 ⊢;intro e hee;have h2 := h1 e hee;cases hy : es[e]? with
    | none => simp
    | some y => rw [hy] at h2; exact h2
  ·cases hal : x.al with
   | none => rfl
   | some g =>
    simp only;rw [aet];intro e _;cases he' : es[e]? with
    | none => simp
    | some y =>
     simp only;cases hc : y.wr.contains g with
     | false => simp
     | true =>
      have h3 := (k e y he').2 g (by simpa using hc) (i, g) (by have := (k i x he).1 g hal; rwa [Nat.zero_add] at this) rfl;rw [Nat.zero_add] at h3;rw [h3]; rfl
end
section
variable {P : Program} {T : Tab} {K : Kn} {nt : NT} {ops : Array Oper}
def WE (P : Program) (T : Tab) (K : Kn) (nt : NT) (ops : Array Oper) (A : List (Nat × Nat)) (j : Nat) (l : List Oper) (hs : List (Option (Nat × List AV))) (m : Sy) (z : St) (Dd : Nat → Prop) (Q : Sy → St → Prop) : Prop :=
 ∃ N m' z', Q m' z' ∧ ∀ n, N ≤ n → ∀ (D : Nat → Prop) (t : TL) (s : St), Conc D nt m z t s → ∃ (D' : Nat → Prop) (t' : TL) (s' : St) (es : List Entry), evLog T (evX P T K n) ops l hs t s = some (t', s', es) ∧ Pass D s D' s' ∧ Conc D' nt m' z' t' s' ∧ LogZ ops Dd (es.map noAl) D ∧ es.length = l.length ∧ EarZ ops A j es
variable {Dd : Nat → Prop} {A : List (Nat × Nat)} {j : Nat} {rest : List Oper} {hs : List (Option (Nat × List AV))} {m : Sy} {s s0 z z0 : St} {Q : Sy → St → Prop} {R : Ex → Sy → St → Prop} {o : Oper}
theorem we_nil (h : Q m s) : WE P T K nt ops A j [] [] m s Dd Q := ⟨0, m, s, h, fun _ _ E t x ht => ⟨E, t, x, [], rfl, .refl, ht, trivial, rfl, fun i e h => by simp at h⟩⟩
theorem we_consG (hr : (∀ t, Has t nt m → ∀ g, readsA t o.op = some g → Dd g) ∨ rdAt ops rest.length = true)
  (h : W1 (fzAt ops rest.length) P T K nt ops o m s.bare fun m1 s1 => (∀ g ∈ s1.wr, ¬ Dd g ∧ ∀ p ∈ A, p.2 = g → aheadB (Region.before ops) p.1 j = true) ∧ WE P T K nt ops A (j + 1) rest hs m1 { s1 with wr := s1.wr ++ s.wr } Dd Q) : WE P T K nt ops A j (o :: rest) (none :: hs) m s Dd Q := by
 obtain ⟨N, m1, s1, ⟨hw, N', m', s', hq, h'⟩, hn⟩ := h;refine ⟨max N N', m', s', hq, fun n hn' E t x ht => ?_⟩;have htb : Conc E nt m s.bare t x.bare := ⟨bare_stz ht.st, ht.n, ht.ds, ht.rd, ht.at_⟩;obtain ⟨E1, t1, x1, e1, p1, hf, ht1⟩ := hn n (by omega) E t x.bare htb;obtain ⟨w, hw1, hw2⟩ := p1.wr;have hw1 : x1.wr = w := by rw [hw1]; exact List.append_nil w
 have ht1' : Conc E1 nt m1 { s1 with wr := s1.wr ++ s.wr } t1 { x1 with wr := x1.wr ++ x.wr } := ⟨⟨ht1.st.ctr, by simp only [ht1.st.wr, ht.st.wr], ht1.st.get, ht1.st.bd⟩, ht1.n, ht1.ds, ht1.rd, ht1.at_⟩;have p1' : Pass E x E1 { x1 with wr := x1.wr ++ x.wr } := ⟨p1.sub, p1.un, w, by simp only [hw1], hw2⟩;obtain ⟨E2, t2, x2, es, e2, p2, ht2, hL, hlen, hE⟩ := h' n (by omega) E1 t1 _ ht1';refine ⟨E2, t2, x2, _ :: es, by rw [evLog]; rw [show ({ x with wr := [] } : St) = x.bare from rfl, e1]; simp only; rw [e2], p1'.trans p2, ht2, ⟨rfl, fun g hg => ?_, fun g hg => ⟨(hw g (by rw [← ht1.st.wr]; exact hg)).1, hw2 g (by rw [← hw1]; exact hg)⟩, E1, p1.sub, (by rw [lmm, hlen]; exact hf), hL⟩, by rw [lcc, lcc, hlen], fun i e hi => ?_⟩
 ·simp only [noAl] at hg;split at hg
  ·obtain ⟨t0, h0, hT⟩ := ht.told;rcases hr with hr | hr
   ·rcases reads_ref hT hg with h1 | h1
    ·exact .inl (hr t0 h0 g h1)
    ·exact .inr (.inl h1)
   ·exact .inr (.inr (by rw [lmm, hlen]; exact hr))
  ·cases hg
 ·cases i with
  | zero =>
   simp only [List.getElem?_cons_zero, sjj] at hi;subst hi;exact ⟨fun g h => (by cases h), fun g hg => (hw g (by rw [← ht1.st.wr]; exact hg)).2⟩
  | succ i =>
   have := hE i e (by simpa using hi);rw [show j + (i + 1) = j + 1 + i by omega];exact this
theorem we_alloc {d ty : Nat} {pos : String} {af : Array Edge} {e : TypeId} {c : Nat} {cs : List AV} (hd : Nat.ble (d + 1) nt.n = true) (hA : (j, c) ∈ A) (k : WE P T K nt ops A (j + 1) rest hs ((d, .ptr c 0 0) :: m) s Dd Q) :
  WE P T K nt ops A j (⟨some d, .alloc e, ty, pos, af, none⟩ :: rest) (some (c, cs) :: hs) m s Dd Q := by
 obtain ⟨N, m', s', hq, hn⟩ := k;refine ⟨N, m', s', hq, fun n hn' E t x ht => ?_⟩;obtain ⟨E2, t2, x2, es, e2, p2, ht2, hL, hlen, hE⟩ := hn n hn' E _ _ (ht.set (v' := .ptr c 0 0) (Nat.le_of_ble_eq_true hd) (.refl _));refine ⟨E2, t2, x2, ⟨none, [], some c⟩ :: es, ?_, p2, ht2, ⟨rfl, (fun g hg => by cases hg), (fun g hg => by cases hg), E, fun _ h => h, fun _ _ h => h, hL⟩, by rw [lcc, lcc, hlen], fun i x hi => ?_⟩
 ·rw [evLog];have : earlyVal T ops ⟨some d, .alloc e, ty, pos, af, none⟩ t c cs = some (.ptr c 0 0) := rfl;rw [this];simp only;rw [show putA t (some d) (.ptr c 0 0) = t.set d (.ptr c 0 0) from rfl, e2]
 ·cases i with
  | zero =>
   simp only [List.getElem?_cons_zero, sjj] at hi;subst hi;exact ⟨fun g hg => (by cases hg; exact hA), fun g hg => (by cases hg)⟩
  | succ i =>
   have := hE i x (by simpa using hi);rw [show j + (i + 1) = j + 1 + i by omega];exact this
theorem wc_early {id : Nat} (hd : drawOk false ops = true) (hh : hoist false T ops.toList [] z = some (z0, hs)) (h : WE P T K nt ops A 0 ops.toList hs m z0 Dd (R .normal)) : WC P T K nt (.region id ops true) m z R := by
 obtain ⟨N, m', s', hq, hn⟩ := h;refine ⟨N + 1, .normal, m', s', hq, fun n k hn1 hk E t x ht => ?_⟩;obtain ⟨x0, hx0, hst, -⟩ := hoist_ref ops.toList ht.st hh;obtain ⟨E', t', x', es, e1, p1, ht', hL, hlen, hE⟩ := hn n (by omega) E t x0 (ht.pass hst.pass hst.st);obtain ⟨k, rfl⟩ : ∃ j, k = j + 1 := ⟨k - 1, by omega⟩;refine ⟨E', t', x', ?_, hst.pass.trans p1, ht'⟩;have hkd := evLog_kindsH ops.toList hs e1;have hok : logOk (Region.before ops) es = true := by
  refine logOk_e (logOk_k (by rw [lmm, hlen]; simp) (fun i e o he ho => ?_) hL) hE;rw [gmm] at he;cases hi : es[i]? with
  | none => rw [hi] at he; cases he
  | some y => rw [hi] at he; cases he; exact hkd i y o hi ho
 have : evDraw T (evX P T K n) false [] ops t x = some (t', x') := by
  unfold evDraw;rw [hx0];simp only [e1, hok, if_true]
 simp only [evCode, hd, if_true, this]
theorem SH.lay {L : List Chunk} {X : List Nat} (h : SH s0 L s X) (cs : List AV) : SH s0 (L ++ [ptC (.ptr s.ctr 0 0) cs]) (s.newG ⟨[⟨cs, 0, none⟩]⟩) X :=
 h.add (newG_keep h.ok _).1 _ (rd_new h.ok) fun g hg => by
  rw [msi.1 hg, (newG_keep h.ok _).2.2]; exact ⟨nlr _, Nat.lt_succ_self _⟩
theorem wc_early1 {id k : Nat} {L : List Chunk} {X : List Nat} {cs : List AV} (H : Nat → List (Option (Nat × List AV))) (hS : SH s0 L z X) (hd : drawOk false ops = true) (hh : ∀ z, hoist false T ops.toList [] z = some (z.newG ⟨[⟨cs, 0, none⟩]⟩, H z.ctr))
  (h : ∀ c z', SH s0 (L ++ [ptC (.ptr c 0 0) cs]) z' X → c < z'.ctr → Keep [] z' z' → WE P T K nt ops [(k, c)] 0 ops.toList (H c) m z' (Old z' [c]) (R .normal)) : WC P T K nt (.region id ops true) m z R := by
 have h1 := hS.lay cs;exact wc_early hd (hh z) (h z.ctr _ h1 (by rw [(newG_keep hS.ok _).2.2]; exact Nat.lt_succ_self _) (Keep.refl h1.ok))
theorem wc_early2 {id k k' : Nat} {L : List Chunk} {X : List Nat} {cs cs' : List AV} (H : Nat → Nat → List (Option (Nat × List AV))) (hS : SH s0 L z X) (hd : drawOk false ops = true) (hh : ∀ z, hoist false T ops.toList [] z = some ((z.newG ⟨[⟨cs, 0, none⟩]⟩).newG ⟨[⟨cs', 0, none⟩]⟩, H z.ctr (z.ctr + 1)))
  (h : ∀ c c' z', SH s0 (L ++ [ptC (.ptr c 0 0) cs] ++ [ptC (.ptr c' 0 0) cs']) z' X → c < z'.ctr ∧ c' < z'.ctr ∧ c ≠ c' → Keep [] z' z' → WE P T K nt ops [(k, c), (k', c')] 0 ops.toList (H c c') m z' (Old z' [c, c']) (R .normal)) : WC P T K nt (.region id ops true) m z R := by
 have h1 := hS.lay cs;have h2 := h1.lay cs';have e1 := (newG_keep hS.ok ⟨[⟨cs, 0, none⟩]⟩).2.2;have e2 := (newG_keep h1.ok ⟨[⟨cs', 0, none⟩]⟩).2.2;refine wc_early hd (hh z) (h z.ctr (z.ctr + 1) _ ?_ (by rw [e2, e1]; exact ⟨by omega, by omega, by omega⟩) (Keep.refl h2.ok));rw [e1] at h2;exact h2
def tz (T : Tab) (e : TypeId) : List AV := match T e with
 | some i => i.zero
 | none => []
theorem ah1 {B : Array Nat} {k c j : Nat} (h : aheadB B k j = true) : ∀ p ∈ [(k, c)], p.2 = c → aheadB B p.1 j = true := by
 intro p hp _; rw [msi.1 hp]; exact h
theorem ah2a {B : Array Nat} {k c k' c' j : Nat} (hne : c ≠ c') (h : aheadB B k j = true) : ∀ p ∈ [(k, c), (k', c')], p.2 = c → aheadB B p.1 j = true := by
 intro p hp e;simp only [List.mem_cons, nmn, or_false] at hp;rcases hp with rfl | rfl
 ·exact h
 ·exact (hne e.symm).elim
theorem ah2b {B : Array Nat} {k c k' c' j : Nat} (hne : c ≠ c') (h : aheadB B k' j = true) : ∀ p ∈ [(k, c), (k', c')], p.2 = c' → aheadB B p.1 j = true := by
 intro p hp e;simp only [List.mem_cons, nmn, or_false] at hp;rcases hp with rfl | rfl
 ·exact (hne e).elim
 ·exact h
theorem SH.off {L : List Chunk} {Y : List Nat} {i j g0 c o : Nat} {cs cs' : List AV} (h : SH s0 L s Y) (hij : i ≠ j) (hi : L[i]? = some (ptC (.ptr g0 0 0) cs)) (hj : L[j]? = some (ptC (.ptr c 0 0) cs')) : ∀ g ∈ (AV.ptr g0 0 o).gs, g ∉ [c] := by
 intro g hg hc;exact h.dis i j _ _ hij hi hj g hg hc
theorem SH.off2 {L : List Chunk} {Y : List Nat} {i j k g0 c c' o : Nat} {cs cs' cs'' : List AV} (h : SH s0 L s Y) (hij : i ≠ j) (hik : i ≠ k) (hi : L[i]? = some (ptC (.ptr g0 0 0) cs)) (hj : L[j]? = some (ptC (.ptr c 0 0) cs')) (hk : L[k]? = some (ptC (.ptr c' 0 0) cs'')) : ∀ g ∈ (AV.ptr g0 0 o).gs, g ∉ [c, c'] := by
 intro g hg hc;rcases List.mem_cons.1 hc with rfl | hc
 ·exact h.dis i j _ _ hij hi hj g hg (msi.2 rfl)
 ·exact h.dis i k _ _ hik hi hk g hg hc
theorem ac1 {k c n : Nat} (h : c < n) : ∀ p ∈ [(k, c)], p.2 < n := by
 intro p hp; rw [msi.1 hp]; exact h
variable {X : List Nat} {d ty : Nat} {pos : String} {af : Array Edge} {g : Option (Nat × Bool)} {op : Op} {v : AV}
theorem we_val (hr : ∀ t, readsA t op = none) (hg : guardY ops m g = some true) (hd : Nat.ble (d + 1) nt.n = true) (h : ∀ t, Has t nt m → evOp T op t s.bare = some (.val v, s.bare)) (k : WE P T K nt ops A (j + 1) rest hs ((d, v) :: m) s Dd Q) :
  WE P T K nt ops A j (⟨some d, op, ty, pos, af, g⟩ :: rest) (none :: hs) m s Dd Q := we_consG (.inl fun t _ g hg => by rw [hr t] at hg; cases hg) (w1_val hg hd h ⟨fun g hg => (by cases hg), k⟩)
theorem we_load {tt : TypeId} {a : Operand} {i : TI} {p : AV} {cs : List AV} (hK : Keep [] s0 s) (hx : evY m a = some p) (hT : T tt = some i) (hp : Pt s0.h p cs) (hc : loadC i cs = some v) (hX : ∀ g ∈ p.gs, g ∉ X) (hg : guardY ops m g = some true) (hd : Nat.ble (d + 1) nt.n = true)
  (k : WE P T K nt ops A (j + 1) rest hs ((d, v) :: m) s (Old s0 X) Q) : WE P T K nt ops A j (⟨some d, .load tt a, ty, pos, af, g⟩ :: rest) (none :: hs) m s (Old s0 X) Q :=
 have hp' : Pt s.h p cs := hp.keep hK (by intro g _ h; cases h)
 we_consG (.inl fun t ht g hg => by
   have := rd_load ht hx g hg;exact ⟨hp.lt hK.ok0 g this, hX g this⟩) (w1_val (s' := s.bare) hg hd (op_load (s := s.bare) hx hT (show Pt s.bare.h p cs from hp') hc) ⟨fun g hg => (by cases hg), k⟩)
theorem we_call {f : FuncId} {args : List AV} {R : AV → St → Prop} (hK : Keep [] s0 s) (hA : ∀ p ∈ A, p.2 < s0.ctr) (hg : guardY ops m g = some true) (hd : Nat.ble (d + 1) nt.n = true) (hr : ∀ t, readsA t op = none) (h : ∀ t, Has t nt m → evOp T op t s.bare = some (.call f args, s.bare)) (hc : CallS P T K f args s.bare R)
  (hw : ∀ v s', R v s' → Keep [] s.bare s') (k : ∀ v s', R v s' → Keep [] s0 (s'.join s) → WE P T K nt ops A (j + 1) rest hs ((d, v) :: m) (s'.join s) (Old s0 X) Q) (hf : fzAt ops rest.length = true := by kernel_rfl) : WE P T K nt ops A j (⟨some d, op, ty, pos, af, g⟩ :: rest) (none :: hs) m s (Old s0 X) Q :=
 we_consG (.inl fun t _ g hg => by rw [hr t] at hg; cases hg) (w1_call hg hd h hc (fun v s' hr' => by
   have hk := hw v s' hr';have h2 : ∀ g ∈ s'.wr, s.ctr ≤ g := fun g hg => by
     rcases hk.wr g hg with h1 | h1 | h1
     · cases h1
     · cases h1
     · exact h1
   have := hK.ctr;refine ⟨fun g hg => ⟨fun ho => ?_, fun p hp e => ?_⟩, k v s' hr' (hK.trans hk.joined (by intro g hg; cases hg))⟩
   · have := h2 g hg
     have := ho.1;omega
   · have := h2 g hg
     have := hA p hp;omega) hf)
theorem we_store {tt : TypeId} {a x : Operand} {i : TI} {c : Nat} {u : AV} {old : List AV} (hX : c ∈ X) (hok : s.Ok) (hah : ∀ p ∈ A, p.2 = c → aheadB (Region.before ops) p.1 j = true) (hg : guardY ops m g = some true) (ha : evY m a = some (.ptr c 0 0)) (hx : evY m x = some u) (hT : T tt = some i) (hl : u.cells.length = i.size) (hlo : u.cells.length = old.length)
  (hz : u.cells.all AV.leaf = true) (hp : Pt s.h (.ptr c 0 0) old)
  (k : ∀ s', Pt s'.h (.ptr c 0 0) u.cells → Keep [c] s s' → WE P T K nt ops A (j + 1) rest hs m s' (Old s0 X) Q) : WE P T K nt ops A j (⟨none, .store tt a x, ty, pos, af, g⟩ :: rest) (none :: hs) m s (Old s0 X) Q := by
 have hokb : s.bare.Ok := hok;have hpb : rdH s.bare.h c 0 0 old.length = some old := hp;obtain ⟨s', e1, e2, e3, e4⟩ := write_over hokb hpb (k := 0) (c := u.cells) (by omega) hz;rw [Nat.add_zero] at e1;have hwr : ∀ g ∈ s'.wr, g = c := by
  unfold St.write at e1;simp only [hz, if_true] at e1;split at e1
  ·cases e1
  ·split at e1
   ·cases e1
   ·cases e1;intro g hg;exact msi.1 hg
 refine we_consG (.inl fun t _ g hg => by cases hg) (w1_skip (s' := s') hg rfl (fun t ht => ?_) ⟨fun g hg => ?_, k (s'.join s) ?_ e3.joined⟩)
 ·have hnl : ¬ (u.cells.length ≠ i.size) := fun h => h hl;simp only [evOp, hT, evY_ok ht ha, evY_ok ht hx, if_neg hnl, e1]
 ·rw [hwr g hg];exact ⟨fun ho => ho.2 hX, hah⟩
 ·show rdH s'.h c 0 0 u.cells.length = some u.cells
  rw [hlo, e2];unfold over;simp [hlo]
end
end Go.Ab
namespace Go.Ab
open Go.Proofs
theorem SH.sub {s0 s : St} {X : List Nat} {L L' : List Chunk} (h : SH s0 L s X) (p : L'.Sublist L) : SH s0 L' s X := by
 have hp : L.Pairwise Chunk.Dj := by
  rw [List.pairwise_iff_getElem];intro i j hi hj hij;exact h.dis i j _ _ (by omega) (gee hi) (gee hj)
 have hp' : L'.Pairwise Chunk.Dj := hp.sublist p;refine ⟨h.K, fun i c hi => ?_, fun i j c d hij hi hj => ?_⟩
 ·obtain ⟨k, hk⟩ := List.getElem?_of_mem (p.subset (mog hi));exact h.own k c hk
 ·obtain ⟨h1, rfl⟩ := ges.1 hi;obtain ⟨h2, rfl⟩ := ges.1 hj;rw [List.pairwise_iff_getElem] at hp';rcases Nat.lt_or_gt_of_ne hij with k | k
  ·exact hp' i j h1 h2 k
  ·exact fun g hg hd => hp' j i h2 h1 k g hd hg
theorem KindsR.up {v : AV} {ks : List Int} (k : KindsR .leaf v ks) (h : Tr Grp) : KindsR h v ks := by
 obtain ⟨css, h1, h2, h3⟩ := k;exact ⟨css, RowP.up h1 h, h2, h3⟩
def tellL (x : Flt) (l : List (Bool × Flt)) : Flt := l.foldl (fun y p => tellF y p.1 p.2) x
theorem tellL_app (x : Flt) (l r : List (Bool × Flt)) : tellL x (l ++ r) = tellL (tellL x l) r := List.foldl_append
def manyN (y : FunL) : Bool := decide (8 < y.params.length ∨ 4 < y.results.length ∨ 32 < y.vars.length ∨ 256 < y.body.length)
def locsL (y : FunL) : List DeclL := y.params ++ y.vars
def locT (s : SrcL) (k : Nat) (y : FunL) (i : Nat) : List (Bool × Flt) := match (locsL y)[i]? with
 | none => []
 | some d => [(!nameOk d.name, ⟨1, k, -1⟩), ((gN s d.name).1 != 0 || decide (0 ≤ fiI (((locsL y).take i).map DeclL.name) d.name), ⟨70, k, -1⟩), (forN s.principals.length d.label, ⟨10, k, -1⟩)]
def resT (s : SrcL) (k : Nat) (y : FunL) (i : Nat) : List (Bool × Flt) := match y.results[i]? with
 | none => []
 | some l => [(forN s.principals.length l, ⟨10, k, -1⟩)]
def kinds (y : FunL) : List Int := y.body.map StmtL.kind
def lastN (y : FunL) : Int := idxQ (fun i => (kinds y).getD i 0 == 9) y.body.length
def headA (s : SrcL) (k : Nat) (y : FunL) : List (Bool × Flt) := [(manyN y, ⟨74, k, -1⟩), (forN s.principals.length y.level, ⟨10, k, -1⟩)]
def headZ (k : Nat) (y : FunL) : List (Bool × Flt) := [(!(ends1 (kinds y)).isSome || decide ((deepA (kinds y) y.body.length).2 > 12), ⟨50, k, -1⟩), (decide (lastN y < 0) || (lastN y != (y.body.length : Int) - 1), ⟨50, k, -1⟩)]
def headT (s : SrcL) (k : Nat) (y : FunL) : List (Bool × Flt) := headA s k y ++ (List.range (locsL y).length).flatMap (locT s k y) ++ (List.range y.results.length).flatMap (resT s k y) ++ headZ k y
theorem many_t {y : FunL} (h : 8 < y.params.length ∨ 4 < y.results.length ∨ 32 < y.vars.length ∨ 256 < y.body.length) : manyN y = true := decide_eq_true h
theorem many_l {y : FunL} (h1 : ¬ 8 < y.params.length) (h2 : ¬ 4 < y.results.length) (h3 : ¬ 32 < y.vars.length) : manyN y = decide ((y.body.length : Int) > 256) := decide_eq_decide.2 (by omega)
theorem clo107_ok {s : St} {k : Int} {a b d : AV} (hok : s.Ok) (hz : ([.int .i64 k, a, b, d] : List AV).all AV.leaf = true) :
  CallS Try.prog Tt Kt 107 [.agg [.int .i64 k, a, b, d]] s fun r s' => Keep [] s s' ∧ r = .bool (k == 9) := by
 refine cof 6 Try.func107 ?_;refine aq0 ?_;have hS := SH.start hok;refine aq0 ?_;refine ws_box hS rfl rfl rfl hz ?_;rintro p0 z hS hk;have hS : SH _ [_] z _ := hS;have hK := hS.K;refine aq2 ?_;refine wvz (oL 0 hS) ?_;refine aq2 ?_;exact ⟨_, rfl, hK, rfl⟩
theorem head_ok {s0 z : St} {X : List Nat} {R : List Chunk} {c k : Nat} {vp vg va vc vf : AV} {x : SrcL} {y : FunL} {x0 : Flt} (hS : SH s0 (ckP c vp vg va vc vf x0 :: R) z X) (hx : x.small) (hfi : x.fine) (hv : SrcP x [vp, vg, va, vc, vf]) (hy : x.funcs[k]? = some y) :
  CallS Try.prog Tt Kt 57 [.ptr c 0 0, .int .i64 (k : Nat)] z fun r z' => SH s0 (ckP c vp vg va vc vf (tellL x0 (headT x k y)) :: R) z' X ∧ r = .tup [] := by
 obtain ⟨_, _, _, _, _, e0, hvp, hvg, hva, hvc, csf, hrf, hlf, hF⟩ := id hv;cases e0;obtain ⟨hl1, hl2, hl3, hl4, hl5, hsm⟩ := id hx;obtain ⟨cy, hcy⟩ : ∃ c, csf[k]? = some c := ⟨_, gee (by rw [hlf]; exact (ges.1 hy).1)⟩;have hkl := (ges.1 hy).1;obtain ⟨yp, yr, yv, yb, rfl, hyp, hyr, hyv, hyb⟩ := hF k y cy hy hcy;obtain ⟨hy1, hy2, hy3, hy4, hy5⟩ := id (hsm y (mog hy));obtain ⟨hg1, hg2, hg3, hg4, hg5⟩ := hfi.2.2.2.2 y (mog hy);have hzy : ([.str y.name, .int .u64 y.level, yp, yr, yv, yb] : List AV).all AV.leaf = true := by
  obtain ⟨css, h5, -⟩ := id hyb;simp only [List.all_cons, List.all_nil, hyp.leaf, hyr.leaf, hyv.leaf, h5.leaf]; rfl
 have hkr : KindsR .leaf yb (kinds y) := KindsR.of hyb;obtain ⟨csb, hbr, hbl, hbE⟩ := id hyb;have hsb : yb.slen = some y.body.length := by rw [hbr.slen, hbl]
 have hnp : vp.slen = some x.principals.length := by have := RowP.slen hvp; rwa [lmm] at this
 have hlf2 : ∀ d ∈ locsL y, d.fine := fun d hd => (List.mem_append.1 hd).elim (hg3 d) (hg5 d);have hll : (locsL y).length ≤ 4194304 := by rw [locsL, laa]; omega
 refine cof 155 Try.func57 ?_;refine aq4 ?_;refine wvz (v := vf) (oM ((hS.pt 0 rfl).at (o := 4) (nl rfl))) ?_;refine aq1 ?_;refine wvz (oI (RowP.up hrf _)) ?_;refine wvz (oM (Row.pt (RowP.up hrf _) hcy)) ?_;refine ws_alloc hS rfl rfl rfl rfl ?_;rintro p4 z hS hk;have hS : SH _ (_ :: _ :: R) z _ := hS.perm (.cons _ (List.perm_append_singleton _ _));refine ws_store 1 hS rfl rfl rfl rfl rfl rfl hzy (nl rfl) ?_;rintro z hS;have hS : SH _ (_ :: _ :: R) z _ := hS;refine w_nil ?_;have hS : SH s0 (ckP c vp vg va vc vf x0 :: ptC (.ptr p4 0 0) [.str y.name, .int .u64 y.level, yp, yr, yv, yb] :: R) z X := hS;refine then_n ?_
 repeat refine wc_seq ?_
 refine wc_cut (fun m z => Sub [(0, .ptr c 0 0), (1, .int .i64 (k : Nat)), (4, .ptr p4 0 0)] m ∧ SH s0 (ckP c vp vg va vc vf (tellL x0 ([(manyN y, ⟨74, k, -1⟩)])) :: ptC (.ptr p4 0 0) [.str y.name, .int .u64 y.level, yp, yr, yv, yb] :: R) z X) ?_ ?_
 ·refine aq2 ?_;refine wvz (oL 1 hS) ?_;refine wvz (op_len rfl rfl rfl rfl rfl (RowP.slen hyp |>.trans (by rw [lmm]))) ?_;refine aq2 ?_;refine w_split (i := 29) rfl (fun h29 => ?_) (fun h29 => ?_)
  ·simp only [dtt, gt_iff_lt] at h29;refine aq12 ?_;refine aq6 ?_;refine wkz (tell_sh hS) ?_;rintro _ z ⟨hS, rfl⟩;refine aq0 ?_;refine cut_n ?_;exact ⟨(scn rfl (scn rfl (scn rfl (Sub.nil _)))), by first | (rw [tellL, fcc, List.foldl_nil, many_t (by omega)]; exact hS) | (rw [tellL, fcc, List.foldl_nil, many_l (by omega) (by omega) (by omega)]; exact hS)⟩
  simp only [dff, gt_iff_lt] at h29;refine aq1 ?_;refine wvz (oL 1 hS) ?_;refine wvz (op_len rfl rfl rfl rfl rfl (RowP.slen hyr |>.trans (by rw [lmm]))) ?_;refine aq3 ?_;refine w_split (i := 35) rfl (fun h35 => ?_) (fun h35 => ?_)
  ·simp only [dtt, gt_iff_lt] at h35;refine aq12 ?_;refine wkz (tell_sh hS) ?_;rintro _ z ⟨hS, rfl⟩;refine aq0 ?_;refine cut_n ?_;exact ⟨(scn rfl (scn rfl (scn rfl (Sub.nil _)))), by first | (rw [tellL, fcc, List.foldl_nil, many_t (by omega)]; exact hS) | (rw [tellL, fcc, List.foldl_nil, many_l (by omega) (by omega) (by omega)]; exact hS)⟩
  simp only [dff, gt_iff_lt] at h35;refine aq1 ?_;refine wvz (oL 1 hS) ?_;refine wvz (op_len rfl rfl rfl rfl rfl (RowP.slen hyv |>.trans (by rw [lmm]))) ?_;refine aq3 ?_;refine w_split (i := 41) rfl (fun h41 => ?_) (fun h41 => ?_)
  ·simp only [dtt, gt_iff_lt] at h41;refine aq6 ?_;refine wkz (tell_sh hS) ?_;rintro _ z ⟨hS, rfl⟩;refine aq0 ?_;refine cut_n ?_;exact ⟨(scn rfl (scn rfl (scn rfl (Sub.nil _)))), by first | (rw [tellL, fcc, List.foldl_nil, many_t (by omega)]; exact hS) | (rw [tellL, fcc, List.foldl_nil, many_l (by omega) (by omega) (by omega)]; exact hS)⟩
  simp only [dff, gt_iff_lt] at h41;refine aq1 ?_;refine wvz (oL 1 hS) ?_;refine wvz (oN hsb) ?_;refine aq3 ?_;refine wkz (tell_sh hS) ?_;rintro _ z ⟨hS, rfl⟩;refine aq0 ?_;refine cut_n ?_;exact ⟨(scn rfl (scn rfl (scn rfl (Sub.nil _)))), by first | (rw [tellL, fcc, List.foldl_nil, many_t (by omega)]; exact hS) | (rw [tellL, fcc, List.foldl_nil, many_l (by omega) (by omega) (by omega)]; exact hS)⟩
 clear hS;rintro m z ⟨hm, hS⟩;refine then_n ?_;refine wc_sub hm ?_;refine aq3 ?_;refine wvz (v := .int .u64 y.level) (oL 1 hS) ?_;refine wkz (foreign_ok hS.ok (hS.pt 0 rfl) hnp) ?_;rintro _ z ⟨hk, rfl⟩;have hS := hS.mov hk;refine aq1 ?_;refine wkz (tell_sh hS) ?_;rintro _ z ⟨hS, rfl⟩;refine aq1 ?_;refine wvz (oL 1 hS) ?_;refine aq1 ?_;refine wvz (oL 1 hS) ?_;refine w_lit (c := [yp, yv]) [[yp], [yv]] rfl rfl rfl rfl rfl rfl rfl (by decide) (by decide) (fill2 hyp.leaf hyv.leaf) (by simp only [List.all_cons, List.all_nil, hyp.leaf, hyv.leaf]; rfl) rfl (by intro c hc; simp only [List.mem_cons, nmn, or_false] at hc; rcases hc with rfl | rfl <;> simp [hyp.leaf, hyv.leaf]) rfl hS.ok ?_;rintro lv z hlv hk - hlg;have hS := hS.mov hk;refine w_call rfl rfl (op_call rfl rfl rfl rfl) (concat_ok (rs := [(yp, y.params), (yv, y.vars)]) hS.ok hlv (by intro p hp; simp only [List.mem_cons, nmn, or_false] at hp; rcases hp with rfl | rfl; exact hyp; exact hyv) (by simp) (by simp; omega)) ?_;rintro lr z ⟨hk, hlr⟩;have hS := hS.mov hk;have hlr : RowP 2 lr ((locsL y).map dC) := by simpa [locsL] using hlr
 have hS : SH s0 (ckP c vp vg va vc vf (tellL x0 (headA x k y ++ (List.range 0).flatMap (locT x k y))) :: ptC (.ptr p4 0 0) [.str y.name, .int .u64 y.level, yp, yr, yv, yb] :: R) z X := hS;refine aq2 ?_;refine wvz (op_len rfl rfl rfl rfl rfl (RowP.slen hlr |>.trans (by rw [lmm]))) ?_;refine aq1 ?_;refine wc_loop_at (fun jj m z => ∃ i : Nat, jj = (locsL y).length - i ∧ i ≤ (locsL y).length ∧ m = [(0, .ptr c 0 0), (1, .int .i64 (k : Nat)), (4, .ptr p4 0 0), (5, lr), (62, lr), (63, .int .i64 ((locsL y).length : Nat)), (64, .int .i64 (i : Nat))] ∧ SH s0 (ckP c vp vg va vc vf (tellL x0 (headA x k y ++ (List.range i).flatMap (locT x k y))) :: ptC (.ptr p4 0 0) [.str y.name, .int .u64 y.level, yp, yr, yv, yb] :: R) z X) (locsL y).length
  [(0, .ptr c 0 0), (1, .int .i64 (k : Nat)), (4, .ptr p4 0 0), (5, lr), (62, lr), (63, .int .i64 ((locsL y).length : Nat)), (64, .int .i64 ((0 : Nat) : Int))] (scn rfl (scn rfl (scn rfl (scn rfl (scn rfl (scn rfl (scn rfl (Sub.nil _)))))))) ⟨0, by simp, by simp, rfl, hS⟩ ?_
 clear hS;rintro jj m z ⟨i, rfl, hi, rfl, hS⟩;refine aq1 ?_;refine wcd (fun h65 => ?_) (fun h65 => ?_)
 ·refine aq0 ?_;obtain ⟨d, hd⟩ : ∃ d, (locsL y)[i]? = some d := ⟨_, gee (by omega)⟩;obtain ⟨hdn, hdl⟩ := hlf2 d (mog hd);refine aq1 ?_;refine wvz (oJ (RowP.up hlr _)) ?_;refine wvz (oM (Row.mk_pt (RowP.up hlr z.h) hd)) ?_;refine ws_alloc hS rfl rfl rfl rfl ?_;rintro p7 z hS hk;have hS : SH _ (_ :: _ :: _ :: R) z _ := hS.perm (.cons _ (.cons _ (List.perm_append_singleton _ _)));refine aq1 ?_;refine ws_store 2 hS rfl rfl rfl rfl rfl rfl (by rfl) (nl rfl) ?_;rintro z hS;have hS : SH _ (_ :: _ :: _ :: R) z _ := hS;refine aq0 ?_;have h07 : p7 ≠ c := hS.ne (i := 2) (j := 0) (by decide) rfl rfl (msi.2 rfl) (msi.2 rfl);have hS : SH s0 (ckP c vp vg va vc vf (tellL x0 (headA x k y ++ (List.range i).flatMap (locT x k y))) :: ptC (.ptr p4 0 0) [.str y.name, .int .u64 y.level, yp, yr, yv, yb] :: ptC (.ptr p7 0 0) (dC d) :: R) z X := hS;refine aq0 ?_;refine wc_early1 (k := 10) (cs := tz Tt 135) (fun p8 => [none, none, none, none, none, none, none, none, none, none, some (p8, tz Tt 135), none, none]) hS (by kernel_rfl) (fun _ => rfl) ?_;clear hS;rintro p8 z hS hcE hR;have hS : SH _ (_ :: _ :: _ :: _ :: R) z _ := hS.perm (.cons _ (.cons _ (.cons _ (List.perm_append_singleton _ _))));refine we_val (fun _ => rfl) rfl rfl (op_pure rfl) ?_;refine we_val (fun _ => rfl) rfl rfl (op_pure rfl) ?_;refine we_val (fun _ => rfl) rfl rfl (op_fldP rfl rfl rfl rfl (by decide)) ?_;refine we_load hR (v := .agg [vp, vg, va, vc, vf]) rfl rfl ((hS.pt 0 rfl).at (o := 0) (Nat.zero_le _)) rfl (hS.off (i := 0) (j := 3) (by decide) rfl rfl) rfl rfl ?_;refine we_val (fun _ => rfl) rfl rfl (op_fldP rfl rfl rfl rfl (by decide)) ?_;refine we_load hR rfl rfl ((hS.pt 2 rfl).at (nl rfl)) rfl (hS.off (i := 2) (j := 3) (by decide) rfl rfl) rfl rfl ?_;refine we_call hR (ac1 hcE) rfl rfl (fun _ => rfl) (op_call rfl rfl rfl rfl) (global_ok hR.ok hx hv) (fun _ _ h => h.1) ?_;rintro _ sQ ⟨-, rfl⟩ hR;refine we_val (fun _ => rfl) rfl rfl (op_pure rfl) ?_;refine we_val (fun _ => rfl) rfl rfl (op_pure rfl) ?_;refine we_val (fun _ => rfl) rfl rfl (op_pure rfl) ?_;refine we_alloc rfl (.head _) ?_;refine we_store (old := tz Tt 135) (.head _) hR.ok (ah1 (by kernel_rfl)) rfl rfl rfl rfl rfl rfl (by rfl) ((hS.pt 3 rfl).keep0 hR) ?_;rintro sE0 hpE0 hkE0;refine we_val (fun _ => rfl) rfl rfl (op_pure rfl) ?_;refine we_nil ?_;have hS := hS.mov hR;have hS := hS.upd 3 rfl hkE0 (fun g hg => hg) (ptC (.ptr p8 0 0) _) hpE0 (fun g hg => .inl hg);generalize sE0 = z at hS ⊢;have hS : SH _ (_ :: _ :: _ :: _ :: R) z _ := hS;refine aq2 ?_;refine wvz (oL 2 hS) ?_;refine wkz (name_ok hS.ok hdn) ?_;rintro _ z ⟨hk, rfl⟩;have hS := hS.mov hk;refine aq2 ?_;refine wkz (tell_sh hS) ?_;rintro _ z ⟨hS, rfl⟩;refine aq0 ?_;have hR := Keep.refl (s := z) (hS.ok);refine wc_draw (Old z [c]) (by kernel_rfl) rfl ?_;refine aq3 ?_;refine wo_split (i := 88) rfl (fun h88 => ?_) (fun h88 => ?_)
  ·refine aq0 ?_;refine wo_off rfl rfl ?_;refine wo_off rfl rfl ?_;refine wo_off rfl rfl ?_;refine wo_off rfl rfl ?_;refine wo_off rfl rfl ?_;refine wo_off rfl rfl ?_;refine wo_off rfl rfl ?_;refine aq2 ?_;refine wo_callX hR (fun _ h => h) rfl rfl (fun _ => rfl) (op_call rfl rfl rfl rfl) (tell_ok hR.ok (Pt.bare ((hS.pt 0 rfl).keep0 hR))) (fun _ _ h => h.1) ?_;rintro _ sB ⟨-, hpX, rfl⟩ hkX;refine aq0 ?_;have hS := hS.mov hR;have hS := hS.upd 0 rfl hkX (fun g hg => hg) (ckP c vp vg va vc vf _) hpX (fun g hg => .inl hg);generalize sB.join z = z at hS ⊢;have hS : SH s0 (_ :: _ :: _ :: _ :: R) z X := hS;refine aq3 ?_;refine wvz (oL 2 hS) ?_;refine wkz (foreign_ok hS.ok (hS.pt 0 rfl) hnp) ?_;rintro _ z ⟨hk, rfl⟩;have hS := hS.mov hk;refine aq1 ?_;refine wkz (tell_sh hS) ?_;rintro _ z ⟨hS, rfl⟩;refine aq0 ?_;refine wad ?_;refine aq1 ?_;have hS : SH s0 (ckP c vp vg va vc vf (tellL x0 (headA x k y ++ (List.range (i + 1)).flatMap (locT x k y))) :: ptC (.ptr p4 0 0) [.str y.name, .int .u64 y.level, yp, yr, yv, yb] :: R) z X := by
    have e : (List.range (i + 1)).flatMap (locT x k y) = (List.range i).flatMap (locT x k y) ++ locT x k y i := range_flat _ _;rw [e, ← aas, tellL_app];unfold locT;rw [hd];simp only [tellL, fcc, List.foldl_nil, h88, Bool.true_or] at hS ⊢;exact hS.sub (.cons_cons _ (.cons_cons _ (.cons _ (.cons _ (.refl _)))))
   exact rn ⟨i + 1, rfl, by omega, rfl, hS⟩
  refine aq2 ?_;refine wo_slice rfl (RowP.nptr hlr) rfl rfl (op_cut (l := none) (h := some i) (l' := 0) (h' := i) rfl rfl (optY_some rfl (natA_cast _ _)) rfl rfl rfl rfl (RowP.up hlr _) rfl rfl (Nat.zero_le _) (by rw [lmm]; exact hi)) ?_;have hcut : RowP 2 (cutA lr 0 i) (((locsL y).take i).map dC) := Row.cutF hlr hi;refine aq1 ?_;refine wo_load hR rfl rfl ((hS.pt 2 rfl).at (nl rfl)) rfl (by simp [AV.gs, h07]) rfl rfl ?_;refine wo_call0 hR rfl rfl (fun _ => rfl) (op_call rfl rfl rfl rfl) (at103_ok hR.ok (by rw [lmm, List.length_take]; omega) hcut (namR_map (fun _ => ⟨_, rfl⟩) _)) (fun _ _ h => h.1) (by rintro _ _ ⟨-, rfl⟩; rfl) ?_;rintro _ sA ⟨-, rfl⟩ hR;refine aq3 ?_;refine wo_callX hR (fun _ h => h) rfl rfl (fun _ => rfl) (op_call rfl rfl rfl rfl) (tell_ok hR.ok (Pt.bare ((hS.pt 0 rfl).keep0 hR))) (fun _ _ h => h.1) ?_;rintro _ sB ⟨-, hpX, rfl⟩ hkX;refine aq0 ?_;have hS := hS.mov hR;have hS := hS.upd 0 rfl hkX (fun g hg => hg) (ckP c vp vg va vc vf _) hpX (fun g hg => .inl hg);generalize sB.join ⟨sA.ctr, z.h, sA.wr ++ z.wr⟩ = z at hS ⊢;have hS : SH s0 (_ :: _ :: _ :: _ :: R) z X := hS;refine aq3 ?_;refine wvz (oL 2 hS) ?_;refine wkz (foreign_ok hS.ok (hS.pt 0 rfl) hnp) ?_;rintro _ z ⟨hk, rfl⟩;have hS := hS.mov hk;refine aq1 ?_;refine wkz (tell_sh hS) ?_;rintro _ z ⟨hS, rfl⟩;refine aq0 ?_;refine wad ?_;refine aq1 ?_;have hS : SH s0 (ckP c vp vg va vc vf (tellL x0 (headA x k y ++ (List.range (i + 1)).flatMap (locT x k y))) :: ptC (.ptr p4 0 0) [.str y.name, .int .u64 y.level, yp, yr, yv, yb] :: R) z X := by
   have e : (List.range (i + 1)).flatMap (locT x k y) = (List.range i).flatMap (locT x k y) ++ locT x k y i := range_flat _ _;rw [e, ← aas, tellL_app];unfold locT;rw [hd];simp only [tellL, fcc, List.foldl_nil, h88, Bool.false_or] at hS ⊢;exact hS.sub (.cons_cons _ (.cons_cons _ (.cons _ (.cons _ (.refl _)))))
  exact rn ⟨i + 1, rfl, by omega, rfl, hS⟩
 obtain rfl : i = (locsL y).length := by omega
 have hS : SH s0 (ckP c vp vg va vc vf (tellL x0 (headA x k y ++ (List.range (locsL y).length).flatMap (locT x k y) ++ (List.range 0).flatMap (resT x k y))) :: ptC (.ptr p4 0 0) [.str y.name, .int .u64 y.level, yp, yr, yv, yb] :: R) z X := by simpa using hS
 refine aq1 ?_;refine wvz (oL 1 hS) ?_;refine wvz (op_len rfl rfl rfl rfl rfl (RowP.slen hyr |>.trans (by rw [lmm]))) ?_;refine aq1 ?_;refine wc_loop_at (fun jj m z => ∃ i : Nat, jj = y.results.length - i ∧ i ≤ y.results.length ∧ m = [(0, .ptr c 0 0), (1, .int .i64 (k : Nat)), (4, .ptr p4 0 0), (108, yr), (109, .int .i64 (y.results.length : Nat)), (110, .int .i64 (i : Nat))] ∧ SH s0 (ckP c vp vg va vc vf (tellL x0 (headA x k y ++ (List.range (locsL y).length).flatMap (locT x k y) ++ (List.range i).flatMap (resT x k y))) :: ptC (.ptr p4 0 0) [.str y.name, .int .u64 y.level, yp, yr, yv, yb] :: R) z X) y.results.length
  [(0, .ptr c 0 0), (1, .int .i64 (k : Nat)), (4, .ptr p4 0 0), (108, yr), (109, .int .i64 (y.results.length : Nat)), (110, .int .i64 ((0 : Nat) : Int))] (scn rfl (scn rfl (scn rfl (scn rfl (scn rfl (scn rfl (Sub.nil _))))))) ⟨0, by simp, by simp, rfl, hS⟩ ?_
 clear hS;rintro jj m z ⟨i, rfl, hi, rfl, hS⟩;refine aq1 ?_;refine wcd (fun h111 => ?_) (fun h111 => ?_)
 ·refine aq0 ?_;obtain ⟨l, hl⟩ : ∃ l, y.results[i]? = some l := ⟨_, gee (by omega)⟩;refine aq0 ?_;refine wvz (oJ (RowP.up hyr _)) ?_;refine wvz (oM (Row.mk_pt (RowP.up hyr z.h) hl)) ?_;refine aq4 ?_;refine wkz (foreign_ok hS.ok (hS.pt 0 rfl) hnp) ?_;rintro _ z ⟨hk, rfl⟩;have hS := hS.mov hk;refine aq1 ?_;refine wkz (tell_sh hS) ?_;rintro _ z ⟨hS, rfl⟩;refine aq0 ?_;refine wad ?_;refine aq1 ?_;have hS : SH s0 (ckP c vp vg va vc vf (tellL x0 (headA x k y ++ (List.range (locsL y).length).flatMap (locT x k y) ++ (List.range (i + 1)).flatMap (resT x k y))) :: ptC (.ptr p4 0 0) [.str y.name, .int .u64 y.level, yp, yr, yv, yb] :: R) z X := by
   have e : (List.range (i + 1)).flatMap (resT x k y) = (List.range i).flatMap (resT x k y) ++ resT x k y i := range_flat _ _;rw [e, ← aas, tellL_app];unfold resT;rw [hl];exact hS
  exact rn ⟨i + 1, rfl, by omega, rfl, hS⟩
 obtain rfl : i = y.results.length := by omega
 refine aq1 ?_;refine wvz (oL 1 hS) ?_;refine w_call rfl rfl (op_call rfl rfl rfl rfl) (ends_ok hS.ok (by rw [kinds, lmm]; exact hy4) (hkr.up _)) ?_;rintro r z ⟨hk, he⟩;have hS := hS.mov hk;obtain ⟨ea, eb, rfl, -⟩ := he.shape;refine aq11 ?_;refine w_split (i := 131) rfl (fun h131 => ?_) (fun h131 => ?_)
 ·refine aq6 ?_;refine wkz (tell_sh hS) ?_;rintro _ z ⟨hS, rfl⟩;refine aq1 ?_;refine wvz (oL 1 hS) ?_;refine w_call rfl rfl (op_call rfl rfl rfl rfl) (idxF106_ok (q := fun i => (kinds y).getD i 0 == 9) hS.ok (by rw [hbl]; omega) hbr (fun s' i c hk hc => by
      obtain ⟨st, hst⟩ : ∃ st, y.body[i]? = some st := ⟨_, gee (by have := (ges.1 hc).1; rw [← hbl]; exact this)⟩;obtain ⟨vt, ve, rfl, -⟩ := hbE i st c hst hc;rw [show (kinds y).getD i 0 = st.kind by rw [kinds, gdd, gmm, hst]; rfl];exact clo107_ok hk.ok (hbr.cells _ (mog hc)).2)) ?_
  rintro _ z ⟨hk, rfl⟩;have hS := hS.mov hk;have hln : idxQ (fun i => (kinds y).getD i 0 == 9) csb.length = lastN y := by rw [hbl]; rfl
  rw [hln];refine aq5 ?_;refine w_split (i := 145) rfl (fun h145 => ?_) (fun h145 => ?_)
  ·refine aq8 ?_;refine wkz (tell_sh hS) ?_;rintro _ z ⟨hS, rfl⟩;refine aq0 ?_;refine ⟨_, rfl, ?_, rfl⟩;rw [headT, tellL_app];simp only [headZ, tellL, fcc, List.foldl_nil, h131, h145, Bool.true_or] at hS ⊢;exact hS.sub (.cons_cons _ (.cons _ (.refl _)))
  refine aq2 ?_;refine wvz (oL 1 hS) ?_;refine wvz (oN hsb) ?_;refine wvz (op_sub rfl rfl (by unfold In64; omega)) ?_;refine aq3 ?_;refine wkz (tell_sh hS) ?_;rintro _ z ⟨hS, rfl⟩;refine aq0 ?_;refine ⟨_, rfl, ?_, rfl⟩;rw [headT, tellL_app];simp only [headZ, tellL, fcc, List.foldl_nil, h131, h145, Bool.true_or, Bool.false_or] at hS ⊢;exact hS.sub (.cons_cons _ (.cons _ (.refl _)))
 refine aq1 ?_;refine wvz (oL 1 hS) ?_;refine w_call rfl rfl (op_call rfl rfl rfl rfl) (deep_ok hS.ok (by rw [kinds, lmm]; exact hy4) hkr) ?_;rintro _ z ⟨hk, rfl⟩;have hS := hS.mov hk;rw [show (kinds y).length = y.body.length by rw [kinds, lmm]];refine aq3 ?_;refine wkz (tell_sh hS) ?_;rintro _ z ⟨hS, rfl⟩;refine aq1 ?_;refine wvz (oL 1 hS) ?_;refine w_call rfl rfl (op_call rfl rfl rfl rfl) (idxF106_ok (q := fun i => (kinds y).getD i 0 == 9) hS.ok (by rw [hbl]; omega) hbr (fun s' i c hk hc => by
     obtain ⟨st, hst⟩ : ∃ st, y.body[i]? = some st := ⟨_, gee (by have := (ges.1 hc).1; rw [← hbl]; exact this)⟩;obtain ⟨vt, ve, rfl, -⟩ := hbE i st c hst hc;rw [show (kinds y).getD i 0 = st.kind by rw [kinds, gdd, gmm, hst]; rfl];exact clo107_ok hk.ok (hbr.cells _ (mog hc)).2)) ?_
 rintro _ z ⟨hk, rfl⟩;have hS := hS.mov hk;have hln : idxQ (fun i => (kinds y).getD i 0 == 9) csb.length = lastN y := by rw [hbl]; rfl
 rw [hln];refine aq5 ?_;refine w_split (i := 145) rfl (fun h145 => ?_) (fun h145 => ?_)
 ·refine aq8 ?_;refine wkz (tell_sh hS) ?_;rintro _ z ⟨hS, rfl⟩;refine aq0 ?_;refine ⟨_, rfl, ?_, rfl⟩;rw [headT, tellL_app];simp only [headZ, tellL, fcc, List.foldl_nil, h131, h145, Bool.true_or, Bool.false_or] at hS ⊢;exact hS.sub (.cons_cons _ (.cons _ (.refl _)))
 refine aq2 ?_;refine wvz (oL 1 hS) ?_;refine wvz (oN hsb) ?_;refine wvz (op_sub rfl rfl (by unfold In64; omega)) ?_;refine aq3 ?_;refine wkz (tell_sh hS) ?_;rintro _ z ⟨hS, rfl⟩;refine aq0 ?_;refine ⟨_, rfl, ?_, rfl⟩;rw [headT, tellL_app];simp only [headZ, tellL, fcc, List.foldl_nil, h131, h145, Bool.false_or] at hS ⊢;exact hS.sub (.cons_cons _ (.cons _ (.refl _)))
end Go.Ab
namespace Go.Ab
open Go.Proofs
section
variable {P : Program} {T : Tab} {K : Kn} {nt : NT} {ops : Array Oper} {rest : List Oper} {m : Sy} {z s0 : St} {Q : Sy → St → Prop} {d ty : Nat} {pos : String} {af : Array Edge} {g : Option (Nat × Bool)} {X : List Nat} {L : List Chunk}
theorem w_litT {tt e : TypeId} {n : Nat} {parts : Array (Nat × Operand)} {i ie : TI} {ps : List (Nat × AV)} {c : List AV} (cs : List (List AV)) (hS : SH s0 L z X) (hg : guardY ops m g = some true) (hd : Nat.ble (d + 1) nt.n = true) (hT : T tt = some i) (hs : i.sh = .slice e) (he : T e = some ie) (hp : evPartsY m parts.toList = some ps) (hz : ie.zero.length = ie.size) (h0 : ie.size ≠ 0) (h24 : n * ie.size ≤ 2 ^ 24)
  (hf : fillA (fun n => some (n * ie.size, ie.size)) (List.replicate n ie.zero).flatten ps = some c) (hl : c.all AV.leaf = true) (hc : c = cs.flatten) (hcs : ∀ x ∈ cs, x.length = ie.size ∧ x.all AV.leaf = true) (hn : n = cs.length)
  (k : ∀ lv r z', RowP ie.size r cs → SH s0 L z' X → W P T K nt ops rest ((d, r) :: (d, lv) :: m) z' Q) : W P T K nt ops (⟨some d, .buildSlice tt n parts, ty, pos, af, g⟩ :: rest) m z Q := by
 refine w_lit cs hg hd hT hs he hp hz h0 h24 hf hl hc hcs hn hS.ok ?_;rintro lv z1 hlv hk hc1 hlg;have h1 : SH s0 (L ++ [rowC lv ie.size cs]) z1 X := hS.add hk _ ⟨hlv, fun h => by rw [hlg] at h; cases h⟩ (row_newb hk hlv hlg hc1);refine ws_told (v := lv) (sz := ie.size) (css := cs) L.length d h1 (by simp) (by unfold Sy.at; rw [nb_t rfl, cond_true]) ?_;intro r hr h2;refine k lv r _ hr (h2.sub ?_);rw [List.set_append_right _ _ (nlr _), Nat.sub_self];exact List.sublist_append_left _ _
end
theorem RowP.egs {sz : Nat} {v : AV} {css : List (List AV)} (k : RowP sz v css) (i : Nat) : (elemA v i).gs = [] := by
 have h := k.gs;cases v with
 | slc => cases h
 | ro nl xs =>
  unfold elemA;simp only;cases xs[i]? <;> rfl
 | _ => rfl
theorem fld_gs {p : AV} {o : Nat} (h : p.gs = []) : (fldA p o).gs = [] := by
 cases p with
 | ptr => cases h
 | _ => rfl
theorem no_gs {p : AV} {X : List Nat} (h : p.gs = []) : ∀ g ∈ p.gs, g ∉ X := by rw [h]; intro g h; cases h
def longN (x : StmtL) : Bool := decide (0 ≤ idxQ (fun j => decide (((x.exprs.getD j []).length : Int) > 48)) x.exprs.length)
noncomputable def stmtA (k i : Nat) (x : StmtL) : List (Bool × Flt) := [(!fitsN x, ⟨50, k, i⟩), (longN x || decide ((x.exprs.length : Int) > 8), ⟨74, k, i⟩)]
def tgtT (s : SrcL) (k i : Nat) (x : StmtL) (j : Nat) : List (Bool × Flt) := match x.targets[j]? with
 | none => []
 | some nm => useT s k i nm [1, 2]
def nameT (s : SrcL) (k i : Nat) (x : StmtL) : List (Bool × Flt) := if x.kind = 2 then useT s k i x.name [3] else if x.kind = 3 then useT s k i x.name [4] else if x.kind = 4 then useT s k i x.name [5] else []
def termT (s : SrcL) (k i : Nat) (ts : List TermL) (n : Nat) : List (Bool × Flt) := match ts[n]? with
 | none => []
 | some t => if t.kind = 2 then useT s k i t.name [1, 2] else if t.kind = 3 then useT s k i t.name [3] else []
def exprT (s : SrcL) (k i : Nat) (x : StmtL) (j : Nat) : List (Bool × Flt) := match x.exprs[j]? with
 | none => []
 | some ts => (List.range ts.length).flatMap (termT s k i ts)
def retT (k : Nat) (y : FunL) (i : Nat) (x : StmtL) : List (Bool × Flt) := if x.kind = 9 then [((x.exprs.length : Int) != (y.results.length : Int), ⟨73, k, i⟩)] else []
def callT (s : SrcL) (k i : Nat) (x : StmtL) : List (Bool × Flt) := if x.kind = 4 ∧ (fN s k x.name).1 = 5 then match s.funcs[(fN s k x.name).2.toNat]? with
 | none => []
 | some g => [((x.exprs.length : Int) != (g.params.length : Int) || (decide ((x.targets.length : Int) > 0) && (x.targets.length : Int) != (g.results.length : Int)), ⟨73, k, i⟩)]
 else []
noncomputable def stmtB (s : SrcL) (k i : Nat) (x : StmtL) : List (Bool × Flt) := stmtA k i x ++ (List.range x.targets.length).flatMap (tgtT s k i x) ++ nameT s k i x ++ (List.range x.exprs.length).flatMap (exprT s k i x)
noncomputable def stmtT (s : SrcL) (k : Nat) (y : FunL) (i : Nat) (x : StmtL) : List (Bool × Flt) := stmtB s k i x ++ retT k y i x ++ callT s k i x
theorem fN_fn {x : SrcL} {f : Int} {nm : ByteArray} (h : (fN x f nm).1 = 5) : ∃ (q : Nat) (g : FunL), (fN x f nm).2 = q ∧ x.funcs[q]? = some g := by
 have key : 0 ≤ fiI (x.funcs.map FunL.name) nm → ∃ (q : Nat) (g : FunL), fiI (x.funcs.map FunL.name) nm = q ∧ x.funcs[q]? = some g := fun h0 => by
  have h1 := (fiI_lt (x.funcs.map FunL.name) nm).2;rw [lmm] at h1;obtain ⟨q, hq⟩ := Int.eq_ofNat_of_zero_le h0;exact ⟨q, x.funcs[q]'(by omega), hq, gee (by omega)⟩
 unfold fN at h ⊢;split at h
 ·cases h
 ·rename_i h0;rw [if_neg h0];unfold gN at h ⊢;split at h
  ·cases h
  ·rename_i h1;rw [if_neg h1];split at h
   ·cases h
   ·rename_i h2;rw [if_neg h2];split at h
    ·cases h
    ·rename_i h3;rw [if_neg h3];split at h
     ·rename_i h4;rw [if_pos h4];exact key h4
     ·cases h
theorem clo110_ok {s : St} {v : AV} {ts : List TermL} (hok : s.Ok) (hv : RowP 3 v (ts.map tC)) :
  CallS Try.prog Tt Kt 110 [v] s fun r s' => Keep [] s s' ∧ r = .bool (decide ((ts.length : Int) > 48)) := by
 refine cof 6 Try.func110 ?_;refine aq0 ?_;have hS := SH.start hok;have hK := hS.K;refine aq2 ?_;refine wvz (op_len rfl rfl rfl rfl rfl (RowP.slen hv |>.trans (by rw [lmm]))) ?_;refine aq2 ?_;exact ⟨_, rfl, hK, rfl⟩
theorem contF109_ok {s : St} {v : AV} {css : List (List AV)} {q : Nat → Bool} {gf : FuncId} {caps : List AV} (hok : s.Ok) (hl : css.length ≤ 8388608) (hv : RowP 1 v css)
  (hcl' : ∀ (s' : St) (i : Nat) (c : List AV), Keep [] s s' → css[i]? = some c → CallS Try.prog Tt Kt gf (packC c :: caps) s' fun r s'' => Keep [] s' s'' ∧ r = .bool (q i)) :
  CallS Try.prog Tt Kt 109 [v, .fn gf caps] s fun r s' => Keep [] s s' ∧ r = .bool (decide (0 ≤ idxQ q css.length)) := by
 refine cof 9 Try.func109 ?_;refine aq0 ?_;have hS := SH.start hok;have hK := hS.K;refine aq3 ?_;refine wkz (idxF140_ok hS.ok hl hv (fun s1 i c hk hc => hcl' s1 i c (hK.two hk) hc)) ?_;rintro _ z ⟨hk, rfl⟩;have hS := hS.mov hk;have hK := hS.K;refine aq2 ?_;exact ⟨_, rfl, hK, rfl⟩
theorem stmt_ok {s0 z : St} {X : List Nat} {R : List Chunk} {c k i : Nat} {vp vg va vc vf : AV} {x : SrcL} {y : FunL} {st : StmtL} {x0 : Flt} (hS : SH s0 (ckP c vp vg va vc vf x0 :: R) z X) (hx : x.small) (hv : SrcP x [vp, vg, va, vc, vf]) (hy : x.funcs[k]? = some y) (hst : y.body[i]? = some st) :
  CallS Try.prog Tt Kt 58 [.ptr c 0 0, .int .i64 (k : Nat), .int .i64 (i : Nat)] z fun r z' => SH s0 (ckP c vp vg va vc vf (tellL x0 (stmtT x k y i st)) :: R) z' X ∧ r = .tup [] := by
 obtain ⟨_, _, _, _, _, e0, hvp, hvg, hva, hvc, csf, hrf, hlf, hF⟩ := id hv;cases e0;obtain ⟨hl1, hl2, hl3, hl4, hl5, hsm⟩ := id hx;obtain ⟨cy, hcy⟩ : ∃ c, csf[k]? = some c := ⟨_, gee (by rw [hlf]; exact (ges.1 hy).1)⟩;have hkl := (ges.1 hy).1;obtain ⟨yp, yr, yv, yb, rfl, hyp, hyr, hyv, hyb⟩ := hF k y cy hy hcy;obtain ⟨hy1, hy2, hy3, hy4, hy5⟩ := id (hsm y (mog hy));obtain ⟨csb, hbr, hbl, hbE⟩ := id hyb;have hsl := (ges.1 hst).1;obtain ⟨cst, hcst⟩ : ∃ c, csb[i]? = some c := ⟨_, gee (by omega)⟩;have hsr := hbE i st cst hst hcst;obtain ⟨vt, ve, rfl, hvt, hve⟩ := id hsr;have hss := hy5 st (mog hst);obtain ⟨hx1, hx2, hx3⟩ := id hss;obtain ⟨cse, hre, hle, hTE⟩ := id hve;have hse : ve.slen = some st.exprs.length := by rw [hre.slen, hle]
 have hst1 : vt.slen = some st.targets.length := by have := RowP.slen hvt; rwa [lmm] at this
 have hzs : ([.int .i64 st.kind, .str st.name, vt, ve] : List AV).all AV.leaf = true := (hbr.cells _ (mog hcst)).2;refine cof 203 Try.func58 ?_;refine aq4 ?_;refine wvz (v := vf) (oM ((hS.pt 0 rfl).at (o := 4) (nl rfl))) ?_;refine aq1 ?_;refine wvz (oI (RowP.up hrf _)) ?_;refine wvz (oF (Row.pt (RowP.up hrf z.h) hcy)) ?_;refine wvz (v := yb) (oM (Pt.fld (Row.pt (RowP.up hrf z.h) hcy) _ (nl rfl))) ?_;refine aq1 ?_;refine wvz (oI (RowP.up hbr _)) ?_;refine wvz (oM (Row.pt (RowP.up hbr z.h) hcst)) ?_;refine ws_alloc hS rfl rfl rfl rfl ?_;rintro p6 z hS hk;have hS : SH _ (_ :: _ :: R) z _ := hS.perm (.cons _ (List.perm_append_singleton _ _));have hK := hS.K;refine ws_store 1 hS rfl rfl rfl rfl rfl rfl (by assumption) (nl rfl) ?_;rintro z hS;have hS : SH _ (_ :: _ :: R) z _ := hS;refine aq0 ?_;have hS : SH s0 (ckP c vp vg va vc vf x0 :: ptC (.ptr p6 0 0) [.int .i64 st.kind, .str st.name, vt, ve] :: R) z X := hS;refine aq1 ?_;refine wvz (oL 1 hS) ?_;refine wkz (fits_ok hS.ok hss hsr) ?_;rintro _ z ⟨hk, rfl⟩;have hS := hS.mov hk;refine aq3 ?_;refine wkz (tell_sh hS) ?_;rintro _ z ⟨hS, rfl⟩;refine aq1 ?_;refine wvz (oL 1 hS) ?_;refine w_call rfl rfl (op_call rfl rfl rfl rfl) (contF109_ok (q := fun j => decide (((st.exprs.getD j []).length : Int) > 48)) hS.ok (by omega) hre (fun s1 j c hk hc => by
     obtain ⟨ts, hts⟩ : ∃ ts, st.exprs[j]? = some ts := ⟨_, gee (by have := (ges.1 hc).1; omega)⟩;obtain ⟨tv, rfl, htv⟩ := hTE j ts c hts hc;rw [show st.exprs.getD j [] = ts by rw [gdd, hts]; rfl];exact clo110_ok hk.ok htv)) ?_
 rintro _ z ⟨hk, rfl⟩;have hS := hS.mov hk;have hK := hS.K;rw [show decide (0 ≤ idxQ (fun j => decide (((st.exprs.getD j []).length : Int) > 48)) cse.length) = longN st by rw [hle]; rfl];refine wvz (op_pure rfl) ?_;refine w_nil ?_;refine then_n ?_
 repeat refine wc_seq ?_
 refine wc_cut (fun m z => Sub [(0, .ptr c 0 0), (1, .int .i64 (k : Nat)), (2, .int .i64 (i : Nat)), (6, .ptr p6 0 0)] m ∧ SH s0 (ckP c vp vg va vc vf (tellL x0 (stmtA k i st ++ (List.range 0).flatMap (tgtT x k i st))) :: ptC (.ptr p6 0 0) [.int .i64 st.kind, .str st.name, vt, ve] :: R) z X) ?_ ?_
 ·refine aq3 ?_;refine w_split (i := 41) rfl (fun h41 => ?_) (fun h41 => ?_)
  ·refine aq7 ?_;refine wkz (tell_sh hS) ?_;rintro _ z ⟨hS, rfl⟩;refine aq0 ?_;refine cut_n ?_;refine ⟨(scn rfl (scn rfl (scn rfl (scn rfl (Sub.nil _))))), ?_⟩;rw [List.range_zero, List.flatMap_nil, List.append_nil, stmtA];simp only [tellL, fcc, List.foldl_nil, h41, Bool.true_or] at hS ⊢;exact hS
  refine aq1 ?_;refine wvz (oL 1 hS) ?_;refine wvz (oN hse) ?_;refine aq4 ?_;refine wkz (tell_sh hS) ?_;rintro _ z ⟨hS, rfl⟩;refine aq0 ?_;refine cut_n ?_;refine ⟨(scn rfl (scn rfl (scn rfl (scn rfl (Sub.nil _))))), ?_⟩;rw [List.range_zero, List.flatMap_nil, List.append_nil, stmtA];simp only [tellL, fcc, List.foldl_nil, h41, Bool.false_or] at hS ⊢;exact hS
 clear hS hK;rintro m z ⟨hm, hS⟩;have hK := hS.K;refine then_n ?_;refine wc_sub hm ?_;refine aq1 ?_;refine wvz (v := vt) (oL 1 hS) ?_;refine wvz (oN hst1) ?_;refine aq1 ?_;refine wc_loop_at (fun jj m z => ∃ j : Nat, jj = st.targets.length - j ∧ j ≤ st.targets.length ∧ m = [(0, .ptr c 0 0), (1, .int .i64 (k : Nat)), (2, .int .i64 (i : Nat)), (6, .ptr p6 0 0), (51, vt), (52, .int .i64 (st.targets.length : Nat)), (53, .int .i64 (j : Nat))] ∧ SH s0 (ckP c vp vg va vc vf (tellL x0 (stmtA k i st ++ (List.range j).flatMap (tgtT x k i st))) :: ptC (.ptr p6 0 0) [.int .i64 st.kind, .str st.name, vt, ve] :: R) z X) st.targets.length
  [(0, .ptr c 0 0), (1, .int .i64 (k : Nat)), (2, .int .i64 (i : Nat)), (6, .ptr p6 0 0), (51, vt), (52, .int .i64 (st.targets.length : Nat)), (53, .int .i64 ((0 : Nat) : Int))] (scn rfl (scn rfl (scn rfl (scn rfl (scn rfl (scn rfl (scn rfl (Sub.nil _)))))))) ⟨0, by simp, by simp, rfl, hS⟩ ?_
 clear hS hK;rintro jj m z ⟨j, rfl, hj, rfl, hS⟩;have hK := hS.K;refine aq1 ?_;refine wcd (fun h54 => ?_) (fun h54 => ?_)
 ·refine aq0 ?_;obtain ⟨tn, htn⟩ : ∃ d, st.targets[j]? = some d := ⟨_, gee (by omega)⟩;refine aq0 ?_;refine wvz (oJ (RowP.up hvt _)) ?_;refine wvz (oM (Row.mk_pt (RowP.up hvt z.h) htn)) ?_;refine aq5 ?_;refine w_litT (c := [.int .i64 1, .int .i64 2]) [[.int .i64 1], [.int .i64 2]] hS rfl rfl rfl rfl rfl rfl rfl (by decide) (by decide) rfl rfl rfl (by intro c hc; simp only [List.mem_cons, nmn, or_false] at hc; rcases hc with rfl | rfl <;> exact ⟨rfl, rfl⟩) rfl ?_;clear hS hK;rintro - l61 z hl61 hS;refine w_call rfl rfl (op_call rfl rfl rfl rfl) (use_ok (ks := [1, 2]) hS hx hv (by decide) hl61) ?_;clear hS;rintro _ z ⟨hS, rfl⟩;refine aq0 ?_;refine wad ?_;refine aq1 ?_;have hS : SH s0 (ckP c vp vg va vc vf (tellL x0 (stmtA k i st ++ (List.range (j + 1)).flatMap (tgtT x k i st))) :: ptC (.ptr p6 0 0) [.int .i64 st.kind, .str st.name, vt, ve] :: R) z X := by
   have e : (List.range (j + 1)).flatMap (tgtT x k i st) = (List.range j).flatMap (tgtT x k i st) ++ tgtT x k i st j := range_flat _ _;rw [e, ← aas, tellL_app, show tgtT x k i st j = useT x k i tn [1, 2] by unfold tgtT; rw [htn]];exact hS
  exact rn ⟨j + 1, rfl, by omega, rfl, hS⟩
 obtain rfl : j = st.targets.length := by omega
 refine aq1 ?_;refine wvz (v := .int .i64 st.kind) (oL 1 hS) ?_;refine w_nil ?_;refine then_n ?_
 repeat refine wc_seq ?_
 refine wc_cut (fun m z => Sub [(0, .ptr c 0 0), (1, .int .i64 (k : Nat)), (2, .int .i64 (i : Nat)), (6, .ptr p6 0 0)] m ∧ SH s0 (ckP c vp vg va vc vf (tellL x0 (stmtA k i st ++ (List.range st.targets.length).flatMap (tgtT x k i st) ++ nameT x k i st ++ (List.range 0).flatMap (exprT x k i st))) :: ptC (.ptr p6 0 0) [.int .i64 st.kind, .str st.name, vt, ve] :: R) z X) ?_ ?_
 ·refine aq2 ?_;refine wcb (fun h66 => ?_) (fun h66 => ?_)
  ·refine aq4 ?_;refine wvz (v := .str st.name) (oL 1 hS) ?_;refine w_litT (c := [.int .i64 3]) [[.int .i64 3]] hS rfl rfl rfl rfl rfl rfl rfl (by decide) (by decide) rfl rfl rfl (by intro c hc; simp only [List.mem_cons, nmn, or_false] at hc; rcases hc with rfl <;> exact ⟨rfl, rfl⟩) rfl ?_;clear hS hK;rintro - l73 z hl73 hS;refine w_call rfl rfl (op_call rfl rfl rfl rfl) (use_ok (ks := [3]) hS hx hv (by decide) hl73) ?_;clear hS;rintro _ z ⟨hS, rfl⟩;refine aq0 ?_;refine cut_n ?_;refine ⟨(scn rfl (scn rfl (scn rfl (scn rfl (Sub.nil _))))), ?_⟩;rw [List.range_zero, List.flatMap_nil, List.append_nil, tellL_app, nameT]
   first
   | (rw [if_pos h66]; exact hS)
   | (rw [if_neg h66, if_pos h75]; exact hS)
   | (rw [if_neg h66, if_neg h75, if_pos h84]; exact hS)
   | (rw [if_neg h66, if_neg h75, if_neg h84]; exact hS)
  refine aq2 ?_;refine wcb (fun h75 => ?_) (fun h75 => ?_)
  ·refine aq4 ?_;refine wvz (v := .str st.name) (oL 1 hS) ?_;refine w_litT (c := [.int .i64 4]) [[.int .i64 4]] hS rfl rfl rfl rfl rfl rfl rfl (by decide) (by decide) rfl rfl rfl (by intro c hc; simp only [List.mem_cons, nmn, or_false] at hc; rcases hc with rfl <;> exact ⟨rfl, rfl⟩) rfl ?_;clear hS hK;rintro - l82 z hl82 hS;refine w_call rfl rfl (op_call rfl rfl rfl rfl) (use_ok (ks := [4]) hS hx hv (by decide) hl82) ?_;clear hS;rintro _ z ⟨hS, rfl⟩;refine aq0 ?_;refine cut_n ?_;refine ⟨(scn rfl (scn rfl (scn rfl (scn rfl (Sub.nil _))))), ?_⟩;rw [List.range_zero, List.flatMap_nil, List.append_nil, tellL_app, nameT]
   first
   | (rw [if_pos h66]; exact hS)
   | (rw [if_neg h66, if_pos h75]; exact hS)
   | (rw [if_neg h66, if_neg h75, if_pos h84]; exact hS)
   | (rw [if_neg h66, if_neg h75, if_neg h84]; exact hS)
  refine aq2 ?_;refine wcb (fun h84 => ?_) (fun h84 => ?_)
  ·refine aq4 ?_;refine wvz (v := .str st.name) (oL 1 hS) ?_;refine w_litT (c := [.int .i64 5]) [[.int .i64 5]] hS rfl rfl rfl rfl rfl rfl rfl (by decide) (by decide) rfl rfl rfl (by intro c hc; simp only [List.mem_cons, nmn, or_false] at hc; rcases hc with rfl <;> exact ⟨rfl, rfl⟩) rfl ?_;clear hS hK;rintro - l91 z hl91 hS;refine w_call rfl rfl (op_call rfl rfl rfl rfl) (use_ok (ks := [5]) hS hx hv (by decide) hl91) ?_;clear hS;rintro _ z ⟨hS, rfl⟩;refine aq0 ?_;refine cut_n ?_;refine ⟨(scn rfl (scn rfl (scn rfl (scn rfl (Sub.nil _))))), ?_⟩;rw [List.range_zero, List.flatMap_nil, List.append_nil, tellL_app, nameT]
   first
   | (rw [if_pos h66]; exact hS)
   | (rw [if_neg h66, if_pos h75]; exact hS)
   | (rw [if_neg h66, if_neg h75, if_pos h84]; exact hS)
   | (rw [if_neg h66, if_neg h75, if_neg h84]; exact hS)
  refine aq0 ?_;refine cut_n ?_;refine ⟨(scn rfl (scn rfl (scn rfl (scn rfl (Sub.nil _))))), ?_⟩;rw [List.range_zero, List.flatMap_nil, List.append_nil, tellL_app, nameT]
  first
  | (rw [if_pos h66]; exact hS)
  | (rw [if_neg h66, if_pos h75]; exact hS)
  | (rw [if_neg h66, if_neg h75, if_pos h84]; exact hS)
  | (rw [if_neg h66, if_neg h75, if_neg h84]; exact hS)
 clear hS hK;rintro m z ⟨hm, hS⟩;have hK := hS.K;refine wc_sub hm ?_;refine aq1 ?_;refine wvz (v := ve) (oL 1 hS) ?_;refine wvz (oN hse) ?_;refine aq1 ?_;refine wc_loop_at (fun jj m z => ∃ j : Nat, jj = st.exprs.length - j ∧ j ≤ st.exprs.length ∧ m = [(0, .ptr c 0 0), (1, .int .i64 (k : Nat)), (2, .int .i64 (i : Nat)), (6, .ptr p6 0 0), (94, ve), (95, .int .i64 (st.exprs.length : Nat)), (96, .int .i64 (j : Nat))] ∧ SH s0 (ckP c vp vg va vc vf (tellL x0 (stmtA k i st ++ (List.range st.targets.length).flatMap (tgtT x k i st) ++ nameT x k i st ++ (List.range j).flatMap (exprT x k i st))) :: ptC (.ptr p6 0 0) [.int .i64 st.kind, .str st.name, vt, ve] :: R) z X) st.exprs.length
  [(0, .ptr c 0 0), (1, .int .i64 (k : Nat)), (2, .int .i64 (i : Nat)), (6, .ptr p6 0 0), (94, ve), (95, .int .i64 (st.exprs.length : Nat)), (96, .int .i64 ((0 : Nat) : Int))] (scn rfl (scn rfl (scn rfl (scn rfl (scn rfl (scn rfl (scn rfl (Sub.nil _)))))))) ⟨0, by simp, by simp, rfl, hS⟩ ?_
 clear hS hK;rintro jj m z ⟨j, rfl, hj, rfl, hS⟩;have hK := hS.K;refine aq1 ?_;refine wcd (fun h97 => ?_) (fun h97 => ?_)
 ·refine aq0 ?_;obtain ⟨ts, hts⟩ : ∃ d, st.exprs[j]? = some d := ⟨_, gee (by omega)⟩;obtain ⟨ct, hct⟩ : ∃ c, cse[j]? = some c := ⟨_, gee (by omega)⟩;obtain ⟨tv, rfl, htv⟩ := hTE j ts ct hts hct;have hsts := hx3 ts (mog hts);have hte : exprT x k i st j = (List.range ts.length).flatMap (termT x k i ts) := by unfold exprT; rw [hts]
  refine aq0 ?_;refine wvz (oI (RowP.up hre _)) ?_;refine wvz (v := tv) (oM (Row.pt (RowP.up hre z.h) hct)) ?_;refine aq2 ?_;refine wvz (op_len rfl rfl rfl rfl rfl (RowP.slen htv |>.trans (by rw [lmm]))) ?_;refine aq1 ?_;refine wc_loop_at (fun jj m z => ∃ n : Nat, jj = ts.length - n ∧ n ≤ ts.length ∧ m = [(0, .ptr c 0 0), (1, .int .i64 (k : Nat)), (2, .int .i64 (i : Nat)), (6, .ptr p6 0 0), (94, ve), (95, .int .i64 (st.exprs.length : Nat)), (96, .int .i64 (j : Nat)), (100, tv), (101, .int .i64 (ts.length : Nat)), (102, .int .i64 (n : Nat))] ∧ SH s0 (ckP c vp vg va vc vf (tellL x0 (stmtA k i st ++ (List.range st.targets.length).flatMap (tgtT x k i st) ++ nameT x k i st ++ (List.range j).flatMap (exprT x k i st) ++ (List.range n).flatMap (termT x k i ts))) :: ptC (.ptr p6 0 0) [.int .i64 st.kind, .str st.name, vt, ve] :: R) z X) ts.length
   [(0, .ptr c 0 0), (1, .int .i64 (k : Nat)), (2, .int .i64 (i : Nat)), (6, .ptr p6 0 0), (94, ve), (95, .int .i64 (st.exprs.length : Nat)), (96, .int .i64 (j : Nat)), (100, tv), (101, .int .i64 (ts.length : Nat)), (102, .int .i64 ((0 : Nat) : Int))] (scn rfl (scn rfl (scn rfl (scn rfl (scn rfl (scn rfl (scn rfl (scn rfl (scn rfl (scn rfl (Sub.nil _))))))))))) ⟨0, by simp, by simp, rfl, by simpa using hS⟩ ?_
  clear hS hK;rintro jj m z ⟨n, rfl, hn, rfl, hS⟩;have hK := hS.K;refine aq1 ?_;refine wcd (fun h103 => ?_) (fun h103 => ?_)
  ·refine aq0 ?_;obtain ⟨t, ht⟩ : ∃ d, ts[n]? = some d := ⟨_, gee (by omega)⟩;refine aq0 ?_;refine wvz (oJ (RowP.up htv _)) ?_;refine wvz (oM (Row.mk_pt (RowP.up htv z.h) ht)) ?_;refine ws_alloc hS rfl rfl rfl rfl ?_;rintro p13 z hS hk;have hS : SH _ (_ :: _ :: _ :: R) z _ := hS.perm (.cons _ (.cons _ (List.perm_append_singleton _ _)));refine ws_store 2 hS rfl rfl rfl rfl rfl rfl (by rfl) (nl rfl) ?_;rintro z hS;have hS : SH _ (_ :: _ :: _ :: R) z _ := hS;have hK := hS.K;refine aq0 ?_;have hS : SH s0 (ckP c vp vg va vc vf (tellL x0 (stmtA k i st ++ (List.range st.targets.length).flatMap (tgtT x k i st) ++ nameT x k i st ++ (List.range j).flatMap (exprT x k i st) ++ (List.range n).flatMap (termT x k i ts))) :: ptC (.ptr p6 0 0) [.int .i64 st.kind, .str st.name, vt, ve] :: ptC (.ptr p13 0 0) (tC t) :: R) z X := hS;refine aq1 ?_;refine wvz (oL 2 hS) ?_;refine aq2 ?_;refine wcb (fun h108 => ?_) (fun h108 => ?_)
   ·refine aq4 ?_;refine wvz (oL 2 hS) ?_;refine w_litT (c := [.int .i64 1, .int .i64 2]) [[.int .i64 1], [.int .i64 2]] hS rfl rfl rfl rfl rfl rfl rfl (by decide) (by decide) rfl rfl rfl (by intro c hc; simp only [List.mem_cons, nmn, or_false] at hc; rcases hc with rfl | rfl <;> exact ⟨rfl, rfl⟩) rfl ?_;clear hS hK;rintro - l115 z hl115 hS;refine w_call rfl rfl (op_call rfl rfl rfl rfl) (use_ok (ks := [1, 2]) hS hx hv (by decide) hl115) ?_;clear hS;rintro _ z ⟨hS, rfl⟩;refine aq0 ?_;refine wad ?_;refine aq1 ?_;have hS : SH s0 (ckP c vp vg va vc vf (tellL x0 (stmtA k i st ++ (List.range st.targets.length).flatMap (tgtT x k i st) ++ nameT x k i st ++ (List.range j).flatMap (exprT x k i st) ++ (List.range (n + 1)).flatMap (termT x k i ts))) :: ptC (.ptr p6 0 0) [.int .i64 st.kind, .str st.name, vt, ve] :: R) z X := by
     have e : (List.range (n + 1)).flatMap (termT x k i ts) = (List.range n).flatMap (termT x k i ts) ++ termT x k i ts n := range_flat _ _;rw [e, ← aas, tellL_app];unfold termT;rw [ht];simp only
     first
     | (rw [if_pos h108]; exact hS.sub (.cons_cons _ (.cons_cons _ (.cons _ (.refl _)))))
     | (rw [if_neg h108, if_pos h117]; exact hS.sub (.cons_cons _ (.cons_cons _ (.cons _ (.refl _)))))
     | (rw [if_neg h108, if_neg h117]; exact hS.sub (.cons_cons _ (.cons_cons _ (.cons _ (.refl _)))))
    exact rn ⟨n + 1, rfl, by omega, rfl, hS⟩
   refine aq2 ?_;refine wcb (fun h117 => ?_) (fun h117 => ?_)
   ·refine aq4 ?_;refine wvz (oL 2 hS) ?_;refine w_litT (c := [.int .i64 3]) [[.int .i64 3]] hS rfl rfl rfl rfl rfl rfl rfl (by decide) (by decide) rfl rfl rfl (by intro c hc; simp only [List.mem_cons, nmn, or_false] at hc; rcases hc with rfl <;> exact ⟨rfl, rfl⟩) rfl ?_;clear hS hK;rintro - l124 z hl124 hS;refine w_call rfl rfl (op_call rfl rfl rfl rfl) (use_ok (ks := [3]) hS hx hv (by decide) hl124) ?_;clear hS;rintro _ z ⟨hS, rfl⟩;refine aq0 ?_;refine wad ?_;refine aq1 ?_;have hS : SH s0 (ckP c vp vg va vc vf (tellL x0 (stmtA k i st ++ (List.range st.targets.length).flatMap (tgtT x k i st) ++ nameT x k i st ++ (List.range j).flatMap (exprT x k i st) ++ (List.range (n + 1)).flatMap (termT x k i ts))) :: ptC (.ptr p6 0 0) [.int .i64 st.kind, .str st.name, vt, ve] :: R) z X := by
     have e : (List.range (n + 1)).flatMap (termT x k i ts) = (List.range n).flatMap (termT x k i ts) ++ termT x k i ts n := range_flat _ _;rw [e, ← aas, tellL_app];unfold termT;rw [ht];simp only
     first
     | (rw [if_pos h108]; exact hS.sub (.cons_cons _ (.cons_cons _ (.cons _ (.refl _)))))
     | (rw [if_neg h108, if_pos h117]; exact hS.sub (.cons_cons _ (.cons_cons _ (.cons _ (.refl _)))))
     | (rw [if_neg h108, if_neg h117]; exact hS.sub (.cons_cons _ (.cons_cons _ (.cons _ (.refl _)))))
    exact rn ⟨n + 1, rfl, by omega, rfl, hS⟩
   refine aq0 ?_;refine wad ?_;refine aq1 ?_;have hS : SH s0 (ckP c vp vg va vc vf (tellL x0 (stmtA k i st ++ (List.range st.targets.length).flatMap (tgtT x k i st) ++ nameT x k i st ++ (List.range j).flatMap (exprT x k i st) ++ (List.range (n + 1)).flatMap (termT x k i ts))) :: ptC (.ptr p6 0 0) [.int .i64 st.kind, .str st.name, vt, ve] :: R) z X := by
    have e : (List.range (n + 1)).flatMap (termT x k i ts) = (List.range n).flatMap (termT x k i ts) ++ termT x k i ts n := range_flat _ _;rw [e, ← aas, tellL_app];unfold termT;rw [ht];simp only
    first
    | (rw [if_pos h108]; exact hS.sub (.cons_cons _ (.cons_cons _ (.cons _ (.refl _)))))
    | (rw [if_neg h108, if_pos h117]; exact hS.sub (.cons_cons _ (.cons_cons _ (.cons _ (.refl _)))))
    | (rw [if_neg h108, if_neg h117]; exact hS.sub (.cons_cons _ (.cons_cons _ (.cons _ (.refl _)))))
   exact rn ⟨n + 1, rfl, by omega, rfl, hS⟩
  obtain rfl : n = ts.length := by omega
  refine aq0 ?_;refine wad ?_;refine aq1 ?_;have hS : SH s0 (ckP c vp vg va vc vf (tellL x0 (stmtA k i st ++ (List.range st.targets.length).flatMap (tgtT x k i st) ++ nameT x k i st ++ (List.range (j + 1)).flatMap (exprT x k i st))) :: ptC (.ptr p6 0 0) [.int .i64 st.kind, .str st.name, vt, ve] :: R) z X := by
   have e : (List.range (j + 1)).flatMap (exprT x k i st) = (List.range j).flatMap (exprT x k i st) ++ exprT x k i st j := range_flat _ _;rw [e, hte, ← aas];exact hS
  exact rn ⟨j + 1, rfl, by omega, rfl, hS⟩
 obtain rfl : j = st.exprs.length := by omega
 have hS : SH s0 (ckP c vp vg va vc vf (tellL x0 (stmtB x k i st)) :: ptC (.ptr p6 0 0) [.int .i64 st.kind, .str st.name, vt, ve] :: R) z X := hS;refine aq1 ?_;refine wvz (v := .int .i64 st.kind) (oL 1 hS) ?_;refine aq1 ?_;refine wcb (fun h130 => ?_) (fun h130 => ?_)
 ·have hR := Keep.refl (s := z) (hK.ok);refine wc_draw (Old z [c]) (by kernel_rfl) rfl ?_;refine aq2 ?_;refine wo_load hR (v := ve) rfl rfl ((hS.pt 1 rfl).at (nl rfl)) rfl (hS.off (i := 1) (j := 0) (by decide) rfl rfl) rfl rfl ?_;refine wov (oN hse) ?_;refine aq4 ?_;refine wo_loadO (v := vf) rfl rfl ((hS.pt 0 rfl).at (o := 4) (nl rfl)) rfl rfl rfl ?_;refine aq1 ?_;refine wov (oI (RowP.up hrf _)) ?_;refine wov (oF (Row.pt (RowP.up hrf z.h) hcy)) ?_;refine wol hR (v := yr) (Pt.fld (Row.pt (RowP.up hrf z.h) hcy) _ (nl rfl)) (no_gs (fld_gs (RowP.egs hrf _))) ?_;refine wov (op_len rfl rfl rfl rfl rfl (RowP.slen hyr |>.trans (by rw [lmm]))) ?_;refine aq3 ?_;refine wo_callX hR (fun _ h => h) rfl rfl (fun _ => rfl) (op_call rfl rfl rfl rfl) (tell_ok hR.ok (Pt.bare ((hS.pt 0 rfl).keep0 hR))) (fun _ _ h => h.1) ?_;rintro _ sB ⟨-, hpX, rfl⟩ hkX;refine aq0 ?_;have hS := hS.mov hR;have hS := hS.upd 0 rfl hkX (fun g hg => hg) (ckP c vp vg va vc vf _) hpX (fun g hg => .inl hg);generalize sB.join z = z at hS ⊢;have hS : SH s0 (ckP c vp vg va vc vf (tellL x0 (stmtB x k i st ++ retT k y i st)) :: ptC (.ptr p6 0 0) [.int .i64 st.kind, .str st.name, vt, ve] :: R) z X := by rw [tellL_app, retT, if_pos h130]; exact hS
  refine aq0 ?_;refine wc_early1 (k := 11) (cs := tz Tt 135) (fun p14 => [none, none, none, none, none, none, none, none, none, none, none, some (p14, tz Tt 135), none, none]) hS (by kernel_rfl) (fun _ => rfl) ?_;clear hS;rintro p14 z hS hcE hR;have hS : SH _ (_ :: _ :: _ :: R) z _ := hS.perm (.cons _ (.cons _ (List.perm_append_singleton _ _)));refine we_val (fun _ => rfl) rfl rfl (op_pure rfl) ?_;refine we_val (fun _ => rfl) rfl rfl (op_pure rfl) ?_;refine we_val (fun _ => rfl) rfl rfl (op_fldP rfl rfl rfl rfl (by decide)) ?_;refine we_load hR (v := .agg [vp, vg, va, vc, vf]) rfl rfl ((hS.pt 0 rfl).at (o := 0) (Nat.zero_le _)) rfl (hS.off (i := 0) (j := 2) (by decide) rfl rfl) rfl rfl ?_;refine we_val (fun _ => rfl) rfl rfl (op_pure rfl) ?_;refine we_val (fun _ => rfl) rfl rfl (op_fldP rfl rfl rfl rfl (by decide)) ?_;refine we_load hR (v := .str st.name) rfl rfl ((hS.pt 1 rfl).at (nl rfl)) rfl (hS.off (i := 1) (j := 2) (by decide) rfl rfl) rfl rfl ?_;refine we_call hR (ac1 hcE) rfl rfl (fun _ => rfl) (op_call rfl rfl rfl rfl) (find_ok hR.ok hx hv) (fun _ _ h => h.1) ?_;rintro _ sQ ⟨-, rfl⟩ hR;refine we_val (fun _ => rfl) rfl rfl (op_pure rfl) ?_;refine we_val (fun _ => rfl) rfl rfl (op_pure rfl) ?_;refine we_val (fun _ => rfl) rfl rfl (op_pure rfl) ?_;refine we_alloc rfl (.head _) ?_;refine we_store (old := tz Tt 135) (.head _) hR.ok (ah1 (by kernel_rfl)) rfl rfl rfl rfl rfl rfl (by rfl) ((hS.pt 2 rfl).keep0 hR) ?_;rintro sE0 hpE0 hkE0;refine we_val (fun _ => rfl) rfl rfl (op_pure rfl) ?_;refine we_nil ?_;have hS := hS.mov hR;have hS := hS.upd 2 rfl hkE0 (fun g hg => hg) (ptC (.ptr p14 0 0) _) hpE0 (fun g hg => .inl hg);generalize sE0 = z at hS ⊢;have hS : SH _ (_ :: _ :: _ :: R) z _ := hS;refine aq1 ?_;refine wvz (v := .int .i64 st.kind) (oL 1 hS) ?_;refine aq2 ?_;refine w_split (i := 163) rfl (fun h163 => ?_) (fun h163 => ?_)
  ·simp only [beq_iff_eq] at h163;refine aq1 ?_;refine wvz (v := .int .i64 (fN x k st.name).1) (oL 2 hS) ?_;refine aq2 ?_;refine wcb (fun h167 => ?_) (fun h167 => ?_)
   ·refine aq0 ?_;obtain ⟨q, gx, hq, hgx⟩ := fN_fn h167;have hql := (ges.1 hgx).1;obtain ⟨cg, hcg⟩ : ∃ c, csf[q]? = some c := ⟨_, gee (by omega)⟩;obtain ⟨gp, gr, gv, gb, rfl, hgp, hgr, hgv, hgb⟩ := hF q gx cg hgx hcg;have hzg : ([.str gx.name, .int .u64 gx.level, gp, gr, gv, gb] : List AV).all AV.leaf = true := (hrf.cells _ (mog hcg)).2;refine wc_early1 (k := 9) (cs := tz Tt 69) (fun p16 => [none, none, none, none, none, none, none, none, none, some (p16, tz Tt 69), none]) hS (by kernel_rfl) (fun _ => rfl) ?_;clear hS;rintro p16 z hS hcE hR;have hS : SH _ (_ :: _ :: _ :: _ :: R) z _ := hS.perm (.cons _ (.cons _ (.cons _ (List.perm_append_singleton _ _))));refine we_val (fun _ => rfl) rfl rfl (op_pure rfl) ?_;refine we_val (fun _ => rfl) rfl rfl (op_pure rfl) ?_;refine we_val (fun _ => rfl) rfl rfl (op_fldP rfl rfl rfl rfl (by decide)) ?_;refine we_val (fun _ => rfl) rfl rfl (op_fldP rfl rfl rfl rfl (by decide)) ?_;refine we_load hR (v := vf) rfl rfl ((hS.pt 0 rfl).at (o := 4) (nl rfl)) rfl (hS.off (i := 0) (j := 3) (by decide) rfl rfl) rfl rfl ?_;refine we_val (fun _ => rfl) rfl rfl (op_fldP rfl rfl rfl rfl (by decide)) ?_;refine we_load hR (v := .int .i64 (q : Nat)) rfl rfl ((hS.pt 2 rfl).at (o := 1) (nl rfl)) (by rw [← hq]; rfl) (hS.off (i := 2) (j := 3) (by decide) rfl rfl) rfl rfl ?_;refine we_val (fun _ => rfl) rfl rfl (oI (RowP.up hrf _)) ?_;refine we_load hR rfl rfl (Row.pt (RowP.up hrf z.h) hcg) rfl (no_gs (RowP.egs hrf _)) rfl rfl ?_;refine we_alloc rfl (.head _) ?_;refine we_store (old := tz Tt 69) (.head _) hR.ok (ah1 (by kernel_rfl)) rfl rfl rfl rfl rfl rfl hzg ((hS.pt 3 rfl).keep0 hR) ?_;rintro sE0 hpE0 hkE0;refine we_nil ?_;have hS := hS.mov hR;have hS := hS.upd 3 rfl hkE0 (fun g hg => hg) (ptC (.ptr p16 0 0) _) hpE0 (fun g hg => .inl hg);generalize sE0 = z at hS ⊢;have hS : SH _ (_ :: _ :: _ :: _ :: R) z _ := hS;refine aq2 ?_;refine wvz (oL 1 hS) ?_;refine wvz (oN hse) ?_;refine aq1 ?_;refine wvz (oL 3 hS) ?_;refine wvz (op_len rfl rfl rfl rfl rfl (RowP.slen hgp |>.trans (by rw [lmm]))) ?_;refine aq2 ?_;refine w_split (i := 185) rfl (fun h185 => ?_) (fun h185 => ?_)
    ·refine aq12 ?_;refine aq4 ?_;refine wkz (tell_sh hS) ?_;rintro _ z ⟨hS, rfl⟩;refine aq0 ?_;refine ⟨_, rfl, ?_, rfl⟩;rw [stmtT, tellL_app]
     first
     | (rw [show callT x k i st = [] from if_neg (fun h => h163 h.1)]; exact hS.sub (.cons_cons _ (.cons _ (.cons _ (.refl _)))))
     | (rw [show callT x k i st = [] from if_neg (fun h => h167 h.2)]; exact hS.sub (.cons_cons _ (.cons _ (.cons _ (.refl _)))))
     | (unfold callT
        rw [if_pos ⟨h163, h167⟩, hq, Int.toNat_natCast, hgx];simp only [tellL, fcc, List.foldl_nil, h185, h190, Bool.true_or, Bool.false_or, Bool.true_and, Bool.false_and] at hS ⊢;exact hS.sub (.cons_cons _ (.cons _ (.cons _ (.cons _ (.refl _))))))
     | (unfold callT
        rw [if_pos ⟨h163, h167⟩, hq, Int.toNat_natCast, hgx];simp only [tellL, fcc, List.foldl_nil, h185, Bool.true_or] at hS ⊢;exact hS.sub (.cons_cons _ (.cons _ (.cons _ (.cons _ (.refl _))))))
    refine aq1 ?_;refine wvz (oL 1 hS) ?_;refine wvz (oN hst1) ?_;refine aq2 ?_;refine w_split (i := 190) rfl (fun h190 => ?_) (fun h190 => ?_)
    ·refine aq1 ?_;refine wvz (oL 1 hS) ?_;refine wvz (oN hst1) ?_;refine aq1 ?_;refine wvz (oL 3 hS) ?_;refine wvz (op_len rfl rfl rfl rfl rfl (RowP.slen hgr |>.trans (by rw [lmm]))) ?_;refine aq5 ?_;refine wkz (tell_sh hS) ?_;rintro _ z ⟨hS, rfl⟩;refine aq0 ?_;refine ⟨_, rfl, ?_, rfl⟩;rw [stmtT, tellL_app]
     first
     | (rw [show callT x k i st = [] from if_neg (fun h => h163 h.1)]; exact hS.sub (.cons_cons _ (.cons _ (.cons _ (.refl _)))))
     | (rw [show callT x k i st = [] from if_neg (fun h => h167 h.2)]; exact hS.sub (.cons_cons _ (.cons _ (.cons _ (.refl _)))))
     | (unfold callT
        rw [if_pos ⟨h163, h167⟩, hq, Int.toNat_natCast, hgx];simp only [tellL, fcc, List.foldl_nil, h185, h190, Bool.false_or, Bool.true_and] at hS ⊢;exact hS.sub (.cons_cons _ (.cons _ (.cons _ (.cons _ (.refl _))))))
     | (unfold callT
        rw [if_pos ⟨h163, h167⟩, hq, Int.toNat_natCast, hgx];simp only [tellL, fcc, List.foldl_nil, h185, Bool.true_or, Bool.false_or, Bool.true_and, Bool.false_and] at hS ⊢;exact hS.sub (.cons_cons _ (.cons _ (.cons _ (.cons _ (.refl _))))))
    refine aq11 ?_;refine wkz (tell_sh hS) ?_;rintro _ z ⟨hS, rfl⟩;refine aq0 ?_;refine ⟨_, rfl, ?_, rfl⟩;rw [stmtT, tellL_app]
    first
    | (rw [show callT x k i st = [] from if_neg (fun h => h163 h.1)]; exact hS.sub (.cons_cons _ (.cons _ (.cons _ (.refl _)))))
    | (rw [show callT x k i st = [] from if_neg (fun h => h167 h.2)]; exact hS.sub (.cons_cons _ (.cons _ (.cons _ (.refl _)))))
    | (unfold callT
       rw [if_pos ⟨h163, h167⟩, hq, Int.toNat_natCast, hgx];simp only [tellL, fcc, List.foldl_nil, h185, h190, Bool.false_or, Bool.false_and] at hS ⊢;exact hS.sub (.cons_cons _ (.cons _ (.cons _ (.cons _ (.refl _))))))
    | (unfold callT
       rw [if_pos ⟨h163, h167⟩, hq, Int.toNat_natCast, hgx];simp only [tellL, fcc, List.foldl_nil, h185, Bool.true_or, Bool.false_or, Bool.true_and, Bool.false_and] at hS ⊢;exact hS.sub (.cons_cons _ (.cons _ (.cons _ (.cons _ (.refl _))))))
   refine aq0 ?_;refine ⟨_, rfl, ?_, rfl⟩;rw [stmtT, tellL_app]
   first
   | (rw [show callT x k i st = [] from if_neg (fun h => h163 h.1)]; exact hS.sub (.cons_cons _ (.cons _ (.cons _ (.refl _)))))
   | (rw [show callT x k i st = [] from if_neg (fun h => h167 h.2)]; exact hS.sub (.cons_cons _ (.cons _ (.cons _ (.refl _)))))
   | (unfold callT
      rw [if_pos ⟨h163, h167⟩, hq, Int.toNat_natCast, hgx];simp only [tellL, fcc, List.foldl_nil, h185, h190, Bool.true_or, Bool.false_or, Bool.true_and, Bool.false_and] at hS ⊢;exact hS.sub (.cons_cons _ (.cons _ (.cons _ (.cons _ (.refl _))))))
   | (unfold callT
      rw [if_pos ⟨h163, h167⟩, hq, Int.toNat_natCast, hgx];simp only [tellL, fcc, List.foldl_nil, h185, Bool.true_or, Bool.false_or, Bool.true_and, Bool.false_and] at hS ⊢;exact hS.sub (.cons_cons _ (.cons _ (.cons _ (.cons _ (.refl _))))))
  simp only [bff, ne_eq] at h163;refine aq4 ?_;refine wc_cond_f rfl ?_;refine aq0 ?_;refine ⟨_, rfl, ?_, rfl⟩;rw [stmtT, tellL_app]
  first
  | (rw [show callT x k i st = [] from if_neg (fun h => h163 h.1)]; exact hS.sub (.cons_cons _ (.cons _ (.cons _ (.refl _)))))
  | (rw [show callT x k i st = [] from if_neg (fun h => h167 h.2)]; exact hS.sub (.cons_cons _ (.cons _ (.cons _ (.refl _)))))
  | (unfold callT
     rw [if_pos ⟨h163, h167⟩, hq, Int.toNat_natCast, hgx];simp only [tellL, fcc, List.foldl_nil, h185, h190, Bool.true_or, Bool.false_or, Bool.true_and, Bool.false_and] at hS ⊢;exact hS.sub (.cons_cons _ (.cons _ (.cons _ (.cons _ (.refl _))))))
  | (unfold callT
     rw [if_pos ⟨h163, h167⟩, hq, Int.toNat_natCast, hgx];simp only [tellL, fcc, List.foldl_nil, h185, Bool.true_or, Bool.false_or, Bool.true_and, Bool.false_and] at hS ⊢;exact hS.sub (.cons_cons _ (.cons _ (.cons _ (.cons _ (.refl _))))))
 have hS : SH s0 (ckP c vp vg va vc vf (tellL x0 (stmtB x k i st ++ retT k y i st)) :: ptC (.ptr p6 0 0) [.int .i64 st.kind, .str st.name, vt, ve] :: R) z X := by rw [retT, if_neg h130, List.append_nil]; exact hS
 refine aq0 ?_;refine wc_early1 (k := 11) (cs := tz Tt 135) (fun p14 => [none, none, none, none, none, none, none, none, none, none, none, some (p14, tz Tt 135), none, none]) hS (by kernel_rfl) (fun _ => rfl) ?_;clear hS;rintro p14 z hS hcE hR;have hS : SH _ (_ :: _ :: _ :: R) z _ := hS.perm (.cons _ (.cons _ (List.perm_append_singleton _ _)));refine we_val (fun _ => rfl) rfl rfl (op_pure rfl) ?_;refine we_val (fun _ => rfl) rfl rfl (op_pure rfl) ?_;refine we_val (fun _ => rfl) rfl rfl (op_fldP rfl rfl rfl rfl (by decide)) ?_;refine we_load hR (v := .agg [vp, vg, va, vc, vf]) rfl rfl ((hS.pt 0 rfl).at (o := 0) (Nat.zero_le _)) rfl (hS.off (i := 0) (j := 2) (by decide) rfl rfl) rfl rfl ?_;refine we_val (fun _ => rfl) rfl rfl (op_pure rfl) ?_;refine we_val (fun _ => rfl) rfl rfl (op_fldP rfl rfl rfl rfl (by decide)) ?_;refine we_load hR (v := .str st.name) rfl rfl ((hS.pt 1 rfl).at (nl rfl)) rfl (hS.off (i := 1) (j := 2) (by decide) rfl rfl) rfl rfl ?_;refine we_call hR (ac1 hcE) rfl rfl (fun _ => rfl) (op_call rfl rfl rfl rfl) (find_ok hR.ok hx hv) (fun _ _ h => h.1) ?_;rintro _ sQ ⟨-, rfl⟩ hR;refine we_val (fun _ => rfl) rfl rfl (op_pure rfl) ?_;refine we_val (fun _ => rfl) rfl rfl (op_pure rfl) ?_;refine we_val (fun _ => rfl) rfl rfl (op_pure rfl) ?_;refine we_alloc rfl (.head _) ?_;refine we_store (old := tz Tt 135) (.head _) hR.ok (ah1 (by kernel_rfl)) rfl rfl rfl rfl rfl rfl (by rfl) ((hS.pt 2 rfl).keep0 hR) ?_;rintro sE0 hpE0 hkE0;refine we_val (fun _ => rfl) rfl rfl (op_pure rfl) ?_;refine we_nil ?_;have hS := hS.mov hR;have hS := hS.upd 2 rfl hkE0 (fun g hg => hg) (ptC (.ptr p14 0 0) _) hpE0 (fun g hg => .inl hg);generalize sE0 = z at hS ⊢;have hS : SH _ (_ :: _ :: _ :: R) z _ := hS;refine aq1 ?_;refine wvz (v := .int .i64 st.kind) (oL 1 hS) ?_;refine aq2 ?_;refine w_split (i := 163) rfl (fun h163 => ?_) (fun h163 => ?_)
 ·simp only [beq_iff_eq] at h163;refine aq1 ?_;refine wvz (v := .int .i64 (fN x k st.name).1) (oL 2 hS) ?_;refine aq2 ?_;refine wcb (fun h167 => ?_) (fun h167 => ?_)
  ·refine aq0 ?_;obtain ⟨q, gx, hq, hgx⟩ := fN_fn h167;have hql := (ges.1 hgx).1;obtain ⟨cg, hcg⟩ : ∃ c, csf[q]? = some c := ⟨_, gee (by omega)⟩;obtain ⟨gp, gr, gv, gb, rfl, hgp, hgr, hgv, hgb⟩ := hF q gx cg hgx hcg;have hzg : ([.str gx.name, .int .u64 gx.level, gp, gr, gv, gb] : List AV).all AV.leaf = true := (hrf.cells _ (mog hcg)).2;refine wc_early1 (k := 9) (cs := tz Tt 69) (fun p16 => [none, none, none, none, none, none, none, none, none, some (p16, tz Tt 69), none]) hS (by kernel_rfl) (fun _ => rfl) ?_;clear hS;rintro p16 z hS hcE hR;have hS : SH _ (_ :: _ :: _ :: _ :: R) z _ := hS.perm (.cons _ (.cons _ (.cons _ (List.perm_append_singleton _ _))));refine we_val (fun _ => rfl) rfl rfl (op_pure rfl) ?_;refine we_val (fun _ => rfl) rfl rfl (op_pure rfl) ?_;refine we_val (fun _ => rfl) rfl rfl (op_fldP rfl rfl rfl rfl (by decide)) ?_;refine we_val (fun _ => rfl) rfl rfl (op_fldP rfl rfl rfl rfl (by decide)) ?_;refine we_load hR (v := vf) rfl rfl ((hS.pt 0 rfl).at (o := 4) (nl rfl)) rfl (hS.off (i := 0) (j := 3) (by decide) rfl rfl) rfl rfl ?_;refine we_val (fun _ => rfl) rfl rfl (op_fldP rfl rfl rfl rfl (by decide)) ?_;refine we_load hR (v := .int .i64 (q : Nat)) rfl rfl ((hS.pt 2 rfl).at (o := 1) (nl rfl)) (by rw [← hq]; rfl) (hS.off (i := 2) (j := 3) (by decide) rfl rfl) rfl rfl ?_;refine we_val (fun _ => rfl) rfl rfl (oI (RowP.up hrf _)) ?_;refine we_load hR rfl rfl (Row.pt (RowP.up hrf z.h) hcg) rfl (no_gs (RowP.egs hrf _)) rfl rfl ?_;refine we_alloc rfl (.head _) ?_;refine we_store (old := tz Tt 69) (.head _) hR.ok (ah1 (by kernel_rfl)) rfl rfl rfl rfl rfl rfl hzg ((hS.pt 3 rfl).keep0 hR) ?_;rintro sE0 hpE0 hkE0;refine we_nil ?_;have hS := hS.mov hR;have hS := hS.upd 3 rfl hkE0 (fun g hg => hg) (ptC (.ptr p16 0 0) _) hpE0 (fun g hg => .inl hg);generalize sE0 = z at hS ⊢;have hS : SH _ (_ :: _ :: _ :: _ :: R) z _ := hS;refine aq2 ?_;refine wvz (oL 1 hS) ?_;refine wvz (oN hse) ?_;refine aq1 ?_;refine wvz (oL 3 hS) ?_;refine wvz (op_len rfl rfl rfl rfl rfl (RowP.slen hgp |>.trans (by rw [lmm]))) ?_;refine aq2 ?_;refine w_split (i := 185) rfl (fun h185 => ?_) (fun h185 => ?_)
   ·refine aq12 ?_;refine aq4 ?_;refine wkz (tell_sh hS) ?_;rintro _ z ⟨hS, rfl⟩;refine aq0 ?_;refine ⟨_, rfl, ?_, rfl⟩;rw [stmtT, tellL_app]
    first
    | (rw [show callT x k i st = [] from if_neg (fun h => h163 h.1)]; exact hS.sub (.cons_cons _ (.cons _ (.cons _ (.refl _)))))
    | (rw [show callT x k i st = [] from if_neg (fun h => h167 h.2)]; exact hS.sub (.cons_cons _ (.cons _ (.cons _ (.refl _)))))
    | (unfold callT
       rw [if_pos ⟨h163, h167⟩, hq, Int.toNat_natCast, hgx];simp only [tellL, fcc, List.foldl_nil, h185, h190, Bool.true_or, Bool.false_or, Bool.true_and, Bool.false_and] at hS ⊢;exact hS.sub (.cons_cons _ (.cons _ (.cons _ (.cons _ (.refl _))))))
    | (unfold callT
       rw [if_pos ⟨h163, h167⟩, hq, Int.toNat_natCast, hgx];simp only [tellL, fcc, List.foldl_nil, h185, Bool.true_or] at hS ⊢;exact hS.sub (.cons_cons _ (.cons _ (.cons _ (.cons _ (.refl _))))))
   refine aq1 ?_;refine wvz (oL 1 hS) ?_;refine wvz (oN hst1) ?_;refine aq2 ?_;refine w_split (i := 190) rfl (fun h190 => ?_) (fun h190 => ?_)
   ·refine aq1 ?_;refine wvz (oL 1 hS) ?_;refine wvz (oN hst1) ?_;refine aq1 ?_;refine wvz (oL 3 hS) ?_;refine wvz (op_len rfl rfl rfl rfl rfl (RowP.slen hgr |>.trans (by rw [lmm]))) ?_;refine aq5 ?_;refine wkz (tell_sh hS) ?_;rintro _ z ⟨hS, rfl⟩;refine aq0 ?_;refine ⟨_, rfl, ?_, rfl⟩;rw [stmtT, tellL_app]
    first
    | (rw [show callT x k i st = [] from if_neg (fun h => h163 h.1)]; exact hS.sub (.cons_cons _ (.cons _ (.cons _ (.refl _)))))
    | (rw [show callT x k i st = [] from if_neg (fun h => h167 h.2)]; exact hS.sub (.cons_cons _ (.cons _ (.cons _ (.refl _)))))
    | (unfold callT
       rw [if_pos ⟨h163, h167⟩, hq, Int.toNat_natCast, hgx];simp only [tellL, fcc, List.foldl_nil, h185, h190, Bool.false_or, Bool.true_and] at hS ⊢;exact hS.sub (.cons_cons _ (.cons _ (.cons _ (.cons _ (.refl _))))))
    | (unfold callT
       rw [if_pos ⟨h163, h167⟩, hq, Int.toNat_natCast, hgx];simp only [tellL, fcc, List.foldl_nil, h185, Bool.true_or, Bool.false_or, Bool.true_and, Bool.false_and] at hS ⊢;exact hS.sub (.cons_cons _ (.cons _ (.cons _ (.cons _ (.refl _))))))
   refine aq11 ?_;refine wkz (tell_sh hS) ?_;rintro _ z ⟨hS, rfl⟩;refine aq0 ?_;refine ⟨_, rfl, ?_, rfl⟩;rw [stmtT, tellL_app]
   first
   | (rw [show callT x k i st = [] from if_neg (fun h => h163 h.1)]; exact hS.sub (.cons_cons _ (.cons _ (.cons _ (.refl _)))))
   | (rw [show callT x k i st = [] from if_neg (fun h => h167 h.2)]; exact hS.sub (.cons_cons _ (.cons _ (.cons _ (.refl _)))))
   | (unfold callT
      rw [if_pos ⟨h163, h167⟩, hq, Int.toNat_natCast, hgx];simp only [tellL, fcc, List.foldl_nil, h185, h190, Bool.false_or, Bool.false_and] at hS ⊢;exact hS.sub (.cons_cons _ (.cons _ (.cons _ (.cons _ (.refl _))))))
   | (unfold callT
      rw [if_pos ⟨h163, h167⟩, hq, Int.toNat_natCast, hgx];simp only [tellL, fcc, List.foldl_nil, h185, Bool.true_or, Bool.false_or, Bool.true_and, Bool.false_and] at hS ⊢;exact hS.sub (.cons_cons _ (.cons _ (.cons _ (.cons _ (.refl _))))))
  refine aq0 ?_;refine ⟨_, rfl, ?_, rfl⟩;rw [stmtT, tellL_app]
  first
  | (rw [show callT x k i st = [] from if_neg (fun h => h163 h.1)]; exact hS.sub (.cons_cons _ (.cons _ (.cons _ (.refl _)))))
  | (rw [show callT x k i st = [] from if_neg (fun h => h167 h.2)]; exact hS.sub (.cons_cons _ (.cons _ (.cons _ (.refl _)))))
  | (unfold callT
     rw [if_pos ⟨h163, h167⟩, hq, Int.toNat_natCast, hgx];simp only [tellL, fcc, List.foldl_nil, h185, h190, Bool.true_or, Bool.false_or, Bool.true_and, Bool.false_and] at hS ⊢;exact hS.sub (.cons_cons _ (.cons _ (.cons _ (.cons _ (.refl _))))))
  | (unfold callT
     rw [if_pos ⟨h163, h167⟩, hq, Int.toNat_natCast, hgx];simp only [tellL, fcc, List.foldl_nil, h185, Bool.true_or, Bool.false_or, Bool.true_and, Bool.false_and] at hS ⊢;exact hS.sub (.cons_cons _ (.cons _ (.cons _ (.cons _ (.refl _))))))
 simp only [bff, ne_eq] at h163;refine aq4 ?_;refine wc_cond_f rfl ?_;refine aq0 ?_;refine ⟨_, rfl, ?_, rfl⟩;rw [stmtT, tellL_app]
 first
 | (rw [show callT x k i st = [] from if_neg (fun h => h163 h.1)]; exact hS.sub (.cons_cons _ (.cons _ (.cons _ (.refl _)))))
 | (rw [show callT x k i st = [] from if_neg (fun h => h167 h.2)]; exact hS.sub (.cons_cons _ (.cons _ (.cons _ (.refl _)))))
 | (unfold callT
    rw [if_pos ⟨h163, h167⟩, hq, Int.toNat_natCast, hgx];simp only [tellL, fcc, List.foldl_nil, h185, h190, Bool.true_or, Bool.false_or, Bool.true_and, Bool.false_and] at hS ⊢;exact hS.sub (.cons_cons _ (.cons _ (.cons _ (.cons _ (.refl _))))))
 | (unfold callT
    rw [if_pos ⟨h163, h167⟩, hq, Int.toNat_natCast, hgx];simp only [tellL, fcc, List.foldl_nil, h185, Bool.true_or, Bool.false_or, Bool.true_and, Bool.false_and] at hS ⊢;exact hS.sub (.cons_cons _ (.cons _ (.cons _ (.cons _ (.refl _))))))
-- unused hook: lf0.12
-- unused hook: sett50
-- unused hook: sett64
-- unused hook: knt72
-- unused hook: sett93
-- unused hook: sett128
end Go.Ab
namespace Go.Ab
open Go.Proofs
theorem tellL_more {x : Flt} {l : List (Bool × Flt)} (h : x.err ≠ 0) : tellL x l = x := by
 induction l with
 | nil => rfl
 | cons p l ih => rw [tellL, fcc, show tellF x p.1 p.2 = x from if_neg (fun k => h k.2)]; exact ih
theorem tellL_first {l r : List (Bool × Flt)} (hl : GoodF l) (hr : GoodF r) : tellL (firstF l) r = firstF (l ++ r) := firstF_tells hl hr
theorem range_split {β : Type} (g : Nat → List β) {i : Nat} : ∀ {n : Nat}, i ≤ n → ∃ r, (List.range n).flatMap g = (List.range i).flatMap g ++ r
 | 0, h => ⟨[], by rw [show i = 0 by omega]; simp⟩
 | n + 1, h => by
  rcases Nat.lt_or_ge n i with k | k
  ·rw [show i = n + 1 by omega]; exact ⟨[], by simp⟩
  ·obtain ⟨r, hr⟩ := range_split g k;exact ⟨r ++ g n, by rw [range_flat, hr, aas]⟩
noncomputable def stmtI (s : SrcL) (k : Nat) (y : FunL) (i : Nat) : List (Bool × Flt) := match y.body[i]? with
 | none => []
 | some st => stmtT s k y i st
noncomputable def funT (s : SrcL) (k : Nat) : List (Bool × Flt) := match s.funcs[k]? with
 | none => []
 | some y => headT s k y ++ (List.range y.body.length).flatMap (stmtI s k y)
noncomputable def stepT (s : SrcL) : Nat → List (Bool × Flt)
 | 0 => declL s
 | k + 1 => funT s k
noncomputable def checkL (s : SrcL) : List (Bool × Flt) := (List.range (s.funcs.length + 1)).flatMap (stepT s)
theorem good_use (s : SrcL) (f a : Int) (nm : ByteArray) (ks : List Int) : GoodF (useT s f a nm ks) := by
 intro p hp;unfold useT at hp;simp only [List.mem_cons, nmn, or_false] at hp;rcases hp with rfl | rfl <;> simp
theorem good_head (s : SrcL) (k : Nat) (y : FunL) : GoodF (headT s k y) := by
 unfold headT;refine GoodF.app (GoodF.app (GoodF.app ?_ (GoodF.flat fun i _ => ?_)) (GoodF.flat fun i _ => ?_)) ?_
 ·intro p hp; unfold headA at hp; simp only [List.mem_cons, nmn, or_false] at hp; rcases hp with rfl | rfl <;> simp
 ·intro p hp;unfold locT at hp;split at hp
  ·cases hp
  ·simp only [List.mem_cons, nmn, or_false] at hp; rcases hp with rfl | rfl | rfl <;> simp
 ·intro p hp;unfold resT at hp;split at hp
  ·cases hp
  ·simp only [List.mem_cons, nmn, or_false] at hp; subst hp; simp
 ·intro p hp; unfold headZ at hp; simp only [List.mem_cons, nmn, or_false] at hp; rcases hp with rfl | rfl <;> simp
theorem good_stmt' (s : SrcL) (k : Nat) (y : FunL) (i : Nat) (x : StmtL) : GoodF (stmtT s k y i x) := by
 unfold stmtT stmtB;refine GoodF.app (GoodF.app (GoodF.app (GoodF.app (GoodF.app ?_ (GoodF.flat fun j _ => ?_)) ?_) (GoodF.flat fun j _ => ?_)) ?_) ?_
 ·intro p hp; unfold stmtA at hp; simp only [List.mem_cons, nmn, or_false] at hp; rcases hp with rfl | rfl <;> simp
 ·unfold tgtT;split
  ·exact GoodF.nil
  ·exact good_use _ _ _ _ _
 ·unfold nameT;split
  ·exact good_use _ _ _ _ _
  ·split
   ·exact good_use _ _ _ _ _
   ·split
    ·exact good_use _ _ _ _ _
    ·exact GoodF.nil
 ·unfold exprT;split
  ·exact GoodF.nil
  ·refine GoodF.flat fun n _ => ?_;unfold termT;split
   ·exact GoodF.nil
   ·split
    ·exact good_use _ _ _ _ _
    ·split
     ·exact good_use _ _ _ _ _
     ·exact GoodF.nil
 ·unfold retT;split
  ·intro p hp; simp only [List.mem_cons, nmn, or_false] at hp; subst hp; simp
  ·exact GoodF.nil
 ·unfold callT;split
  ·split
   ·exact GoodF.nil
   ·intro p hp; simp only [List.mem_cons, nmn, or_false] at hp; subst hp; simp
  ·exact GoodF.nil
theorem good_fun' (s : SrcL) (k : Nat) : GoodF (funT s k) := by
 unfold funT;split
 ·exact GoodF.nil
 ·refine (good_head _ _ _).app (GoodF.flat fun i _ => ?_);unfold stmtI;split
  ·exact GoodF.nil
  ·exact good_stmt' _ _ _ _ _
theorem good_step (s : SrcL) : ∀ k, GoodF (stepT s k)
 | 0 => good_declL s
 | k + 1 => good_fun' s k
theorem good_check (s : SrcL) (n : Nat) : GoodF ((List.range n).flatMap (stepT s)) := GoodF.flat fun k _ => good_step s k
def stepF : Nat → FuncId
 | 0 => 54
 | _ + 1 => 56
def stepC (p3 p1 : Nat) : Nat → List AV
 | 0 => [.ptr p3 0 0]
 | _ + 1 => [.ptr p3 0 0, .ptr p1 0 0]
def stepR (p3 p1 i : Nat) : List AV := [.fn (stepF i) (stepC p3 p1 i)]
theorem step54_ok {s0 z : St} {X : List Nat} {R : List Chunk} {c p3 p1 : Nat} {vp vg va vc vf : AV} {x : SrcL} (hS : SH s0 (ckP c vp vg va vc vf (⟨0, 0, 0⟩) :: ptC (.ptr p3 0 0) [.ptr c 0 0] :: ptC (.ptr p1 0 0) [vp, vg, va, vc, vf] :: R) z X) (hx : x.small) (hfi : x.fine) (hv : SrcP x [vp, vg, va, vc, vf]) {a : Int} :
  CallS Try.prog Tt Kt 54 [.int .i64 a, .ptr p3 0 0] z fun r z' => SH s0 (ckP c vp vg va vc vf (firstF (declL x)) :: ptC (.ptr p3 0 0) [.ptr c 0 0] :: ptC (.ptr p1 0 0) [vp, vg, va, vc, vf] :: R) z' X ∧ r = .tup [] := by
 refine cof 5 Try.func54 ?_;refine aq0 ?_;refine wvz (oL 1 hS) ?_;refine wkz (declarations_ok hS.ok hx hfi hv (hS.pt 0 rfl)) ?_;rintro _ z ⟨hk, hp, rfl⟩;have hS := hS.upd 0 rfl hk (fun g hg => hg) (ckP c vp vg va vc vf _) hp (fun g hg => .inl hg);refine aq0 ?_;exact ⟨_, rfl, hS, rfl⟩
theorem step56_ok {s0 z : St} {X : List Nat} {R : List Chunk} {c p3 p1 k : Nat} {vp vg va vc vf : AV} {x : SrcL} {x0 : Flt} (hS : SH s0 (ckP c vp vg va vc vf (x0) :: ptC (.ptr p3 0 0) [.ptr c 0 0] :: ptC (.ptr p1 0 0) [vp, vg, va, vc, vf] :: R) z X) (hx : x.small) (hfi : x.fine) (hv : SrcP x [vp, vg, va, vc, vf]) (hkl : k < x.funcs.length) :
  CallS Try.prog Tt Kt 56 [.int .i64 (k : Nat), .ptr p3 0 0, .ptr p1 0 0] z fun r z' => SH s0 (ckP c vp vg va vc vf (tellL x0 (funT x k)) :: ptC (.ptr p3 0 0) [.ptr c 0 0] :: ptC (.ptr p1 0 0) [vp, vg, va, vc, vf] :: R) z' X ∧ r = .tup [] := by
 obtain ⟨_, _, _, _, _, e0, hvp, hvg, hva, hvc, csf, hrf, hlf, hF⟩ := id hv;cases e0;obtain ⟨hl1, hl2, hl3, hl4, hl5, hsm⟩ := id hx;obtain ⟨y, hy⟩ : ∃ y, x.funcs[k]? = some y := ⟨_, gee hkl⟩;obtain ⟨cy, hcy⟩ : ∃ c, csf[k]? = some c := ⟨_, gee (by omega)⟩;obtain ⟨yp, yr, yv, yb, rfl, hyp, hyr, hyv, hyb⟩ := hF k y cy hy hcy;obtain ⟨hy1, hy2, hy3, hy4, hy5⟩ := id (hsm y (mog hy));obtain ⟨csb, hbr, hbl, hbE⟩ := id hyb;have hfu : funT x k = headT x k y ++ (List.range y.body.length).flatMap (stmtI x k y) := by unfold funT; rw [hy]
 refine cof 29 Try.func56 ?_;refine aq0 ?_;refine wvz (oL 1 hS) ?_;refine aq1 ?_;refine wkz (head_ok hS hx hfi hv hy) ?_;clear hS;rintro _ z ⟨hS, rfl⟩;have hK := hS.K;refine aq1 ?_;refine wvz (v := vf) (oL 2 hS) ?_;refine aq1 ?_;refine wvz (oI (RowP.up hrf _)) ?_;refine wvz (oF (Row.pt (RowP.up hrf z.h) hcy)) ?_;refine wvz (v := yb) (oM (Pt.fld (Row.pt (RowP.up hrf z.h) hcy) _ (nl rfl))) ?_;refine wvz (op_len rfl rfl rfl rfl rfl (by rw [hbr.slen, hbl])) ?_;refine aq1 ?_;refine wc_loop_at (fun jj m z => ∃ i : Nat, jj = y.body.length - i ∧ i ≤ y.body.length ∧ m = [(0, .int .i64 (k : Nat)), (1, .ptr p3 0 0), (2, .ptr p1 0 0), (14, .int .i64 (y.body.length : Nat)), (15, .int .i64 (i : Nat))] ∧ SH s0 (ckP c vp vg va vc vf (tellL x0 (headT x k y ++ (List.range i).flatMap (stmtI x k y))) :: ptC (.ptr p3 0 0) [.ptr c 0 0] :: ptC (.ptr p1 0 0) [vp, vg, va, vc, vf] :: R) z X) y.body.length
  [(0, .int .i64 (k : Nat)), (1, .ptr p3 0 0), (2, .ptr p1 0 0), (14, .int .i64 (y.body.length : Nat)), (15, .int .i64 ((0 : Nat) : Int))] (scn rfl (scn rfl (scn rfl (scn rfl (scn rfl (Sub.nil _)))))) ⟨0, by simp, by simp, rfl, by simpa using hS⟩ ?_
 clear hS hK;rintro jj m z ⟨i, rfl, hi, rfl, hS⟩;refine aq1 ?_;refine wcd (fun h16 => ?_) (fun h16 => ?_)
 ·refine aq0 ?_;obtain ⟨st, hst⟩ : ∃ st, y.body[i]? = some st := ⟨_, gee (by omega)⟩;have hsi : stmtI x k y i = stmtT x k y i st := by unfold stmtI; rw [hst]
  refine aq2 ?_;refine wvz (oL 1 hS) ?_;refine aq3 ?_;refine wvz (oL 0 hS) ?_;refine aq1 ?_;refine wc_condT rfl (fun h23 => ?_) (fun h23 => ?_)
  ·simp only [ne_eq, bne_iff_ne] at h23;refine aq0 ?_;refine ⟨_, rfl, ?_, rfl⟩;obtain ⟨r, hr⟩ := range_split (stmtI x k y) hi;rw [hfu, hr, ← aas, tellL_app, tellL_more h23];exact hS
  simp only [bne_eq_false_iff_eq] at h23;refine aq0 ?_;refine wvz (oL 1 hS) ?_;refine aq2 ?_;refine wkz (stmt_ok hS hx hv hy hst) ?_;clear hS;rintro _ z ⟨hS, rfl⟩;refine aq0 ?_;refine wad ?_;refine aq1 ?_;have hS : SH s0 (ckP c vp vg va vc vf (tellL x0 (headT x k y ++ (List.range (i + 1)).flatMap (stmtI x k y))) :: ptC (.ptr p3 0 0) [.ptr c 0 0] :: ptC (.ptr p1 0 0) [vp, vg, va, vc, vf] :: R) z X := by
   rw [range_flat, hsi, ← aas, tellL_app];exact hS
  exact rn ⟨i + 1, rfl, by omega, rfl, hS⟩
 obtain rfl : i = y.body.length := by omega
 refine aq0 ?_;exact ⟨_, rfl, by rw [hfu]; exact hS, rfl⟩
theorem step_ok {s0 z : St} {X : List Nat} {R : List Chunk} {c p3 p1 i : Nat} {vp vg va vc vf : AV} {x : SrcL} (hS : SH s0 (ckP c vp vg va vc vf (firstF ((List.range i).flatMap (stepT x))) :: ptC (.ptr p3 0 0) [.ptr c 0 0] :: ptC (.ptr p1 0 0) [vp, vg, va, vc, vf] :: R) z X) (hx : x.small) (hfi : x.fine) (hv : SrcP x [vp, vg, va, vc, vf]) (hi : i < x.funcs.length + 1) :
  CallS Try.prog Tt Kt (stepF i) (.int .i64 ((i : Nat) - 1 : Int) :: stepC p3 p1 i) z fun r z' => SH s0 (ckP c vp vg va vc vf (firstF ((List.range (i + 1)).flatMap (stepT x))) :: ptC (.ptr p3 0 0) [.ptr c 0 0] :: ptC (.ptr p1 0 0) [vp, vg, va, vc, vf] :: R) z' X ∧ r = .tup [] := by
 rw [range_flat, ← tellL_first (good_check x i) (good_step x i)];cases i with
 | zero =>
  have h1 : tellL (firstF ((List.range 0).flatMap (stepT x))) (stepT x 0) = firstF (declL x) := tellL_first GoodF.nil (good_step x 0);rw [h1];exact step54_ok hS hx hfi hv
 | succ k =>
  rw [show ((k + 1 : Nat) - 1 : Int) = (k : Nat) by omega];exact step56_ok hS hx hfi hv (by omega)
theorem check_ok {s : St} {c : List AV} {x : SrcL} (hok : s.Ok) (hx : x.small) (hfi : x.fine) (hv : SrcP x c) :
  CallS Try.prog Tt Kt 25 [.agg c] s fun r s' => Keep [] s s' ∧ r = .agg (fltC (firstF (checkL x))) := by
 obtain ⟨vp, vg, va, vc, vf, rfl, hvp, hvg, hva, hvc, csf, hrf, hlf, hF⟩ := id hv;obtain ⟨hl1, hl2, hl3, hl4, hl5, hsm⟩ := id hx;have hsf : vf.slen = some x.funcs.length := by rw [hrf.slen, hlf]
 have hzc : (AV.agg (ckC vp vg va vc vf ⟨0, 0, 0⟩)).cells.all AV.leaf = true := by
  have := hv.leaf;simp only [List.all_cons, List.all_nil, Bool.and_true, Bool.and_eq_true] at this;obtain ⟨h1, h2, h3, h4, h5⟩ := this
  show (ckC vp vg va vc vf ⟨0, 0, 0⟩).all AV.leaf = true
  simp only [ckC, List.all_cons, List.all_nil, h1, h2, h3, h4, h5]; rfl
 refine cof 44 Try.func25 ?_;refine aq0 ?_;have hS := SH.start hok;refine aq0 ?_;refine ws_box hS rfl rfl rfl hv.leaf ?_;rintro p0 z hS hk;have hS : SH _ [_] z _ := hS;refine ws_alloc hS rfl rfl rfl rfl ?_;rintro pr z hS hk;have hS : SH _ [_, _] z _ := hS;refine aq0 ?_;refine wvz (v := .agg [vp, vg, va, vc, vf]) (oL 0 hS) ?_;refine wvz (v := .agg (ckC vp vg va vc vf ⟨0, 0, 0⟩)) (op_pure rfl) ?_;refine ws_box hS rfl rfl rfl hzc ?_;rintro p2 z hS hk;have hS : SH _ [_, _, _] z _ := hS;refine ws_alloc hS rfl rfl rfl rfl ?_;rintro p3 z hS hk;have hS : SH _ [_, _, _, _] z _ := hS;refine ws_storeL 3 hS rfl rfl rfl rfl rfl rfl (by rfl) (nl rfl) ?_;rintro z hS;have hS : SH _ [_, _, _, _] z _ := hS;refine aq1 ?_;refine w_lit (c := [.fn 54 [.ptr p3 0 0]]) [[.fn 54 [.ptr p3 0 0]]] rfl rfl rfl rfl rfl rfl rfl (by decide) (by decide) rfl rfl rfl (by intro c hc; rw [msi.1 hc]; exact ⟨rfl, rfl⟩) rfl hS.ok ?_;rintro v z hlv hk hc hlg;have hS := hS.add hk (rowC v 1 [[.fn 54 [.ptr p3 0 0]]]) ⟨hlv, fun h => by rw [hlg] at h; cases h⟩ (row_newb hk hlv hlg hc);have hS : SH s [ptC (.ptr p0 0 0) [vp, vg, va, vc, vf], ptC (.ptr pr 0 0) [.int .i64 0, .int .i64 0, .int .i64 0], ckP p2 vp vg va vc vf ⟨0, 0, 0⟩, ptC (.ptr p3 0 0) [.ptr p2 0 0], rowC v 1 ((List.range (0 + 1)).map (stepR p3 p0))] z _ := hS;have hK := hS.K;refine aq2 ?_;refine wvz (v := vf) (oL 0 hS) ?_;refine wvz (oN hsf) ?_;refine aq1 ?_;refine wc_loop_at (fun jj m z => ∃ (i : Nat) (v : AV), jj = x.funcs.length - i ∧ i ≤ x.funcs.length ∧ m = [(1, .ptr p0 0 0), (2, .ptr pr 0 0), (3, .ptr p3 0 0), (4, v), (14, .int .i64 (x.funcs.length : Nat)), (15, .int .i64 (i : Nat))] ∧ SH s [ptC (.ptr p0 0 0) [vp, vg, va, vc, vf], ptC (.ptr pr 0 0) [.int .i64 0, .int .i64 0, .int .i64 0], ckP p2 vp vg va vc vf ⟨0, 0, 0⟩, ptC (.ptr p3 0 0) [.ptr p2 0 0], rowC v 1 ((List.range (i + 1)).map (stepR p3 p0))] z) x.funcs.length
  [(1, .ptr p0 0 0), (2, .ptr pr 0 0), (3, .ptr p3 0 0), (4, v), (14, .int .i64 (x.funcs.length : Nat)), (15, .int .i64 ((0 : Nat) : Int))] (scn rfl (scn rfl (scn rfl (scn rfl (scn rfl (scn rfl (Sub.nil _))))))) ⟨0, v, by simp, by simp, rfl, hS⟩ ?_
 clear hS hK hlv;rintro jj m z ⟨i, v, rfl, hi, rfl, hS⟩;have hK := hS.K;refine aq1 ?_;refine wcd (fun h16 => ?_) (fun h16 => ?_)
 ·refine aq2 ?_;refine ws_lit1 hS rfl rfl rfl rfl rfl rfl rfl rfl (by decide) (by decide) rfl (by rfl) rfl ?_;rintro lt19 z hS hk hlt19;refine ws_append 4 hS rfl rfl rfl rfl rfl rfl rfl rfl rfl rfl rfl (by decide) (hlt19) (by (simp [maxBytes]; omega)) (by (simp [maxBytes]; omega)) ?_;rintro at20 z hS;have hS : SH _ [_, _, _, _, _] z _ := hS;refine aq1 ?_;refine wad ?_;refine aq1 ?_;have hS : SH s [ptC (.ptr p0 0 0) [vp, vg, va, vc, vf], ptC (.ptr pr 0 0) [.int .i64 0, .int .i64 0, .int .i64 0], ckP p2 vp vg va vc vf ⟨0, 0, 0⟩, ptC (.ptr p3 0 0) [.ptr p2 0 0], rowC at20 1 ((List.range (i + 1 + 1)).map (stepR p3 p0))] z := by
   have e : (List.range (i + 1 + 1)).map (stepR p3 p0) = (List.range (i + 1)).map (stepR p3 p0) ++ [[.fn 56 [.ptr p3 0 0, .ptr p0 0 0]]] := by rw [List.range_succ, List.map_append]; rfl
   rw [e];exact hS
  exact rn ⟨i + 1, at20, rfl, by omega, rfl, hS⟩
 obtain rfl : i = x.funcs.length := by omega
 refine aq1 ?_;refine wvz (v := .int .i64 ((x.funcs.length + 1 : Nat) : Int)) (op_len rfl rfl rfl rfl rfl ((hS.row 4 rfl).slen.trans (by simp))) ?_;refine wvz (op_pure rfl) ?_;refine w_nil ?_;refine then_n ?_
 repeat refine wc_seq ?_
 refine wc_cut (fun m z => Sub [(2, .ptr pr 0 0), (3, .ptr p3 0 0)] m ∧ SH s [ckP p2 vp vg va vc vf (firstF (checkL x)), ptC (.ptr p3 0 0) [.ptr p2 0 0], ptC (.ptr p0 0 0) [vp, vg, va, vc, vf], ptC (.ptr pr 0 0) [.int .i64 0, .int .i64 0, .int .i64 0], rowC v 1 ((List.range (x.funcs.length + 1)).map (stepR p3 p0))] z) ?_ ?_
 ·refine aq0 ?_;have hS : SH s [ckP p2 vp vg va vc vf (firstF ((List.range 0).flatMap (stepT x))), ptC (.ptr p3 0 0) [.ptr p2 0 0], ptC (.ptr p0 0 0) [vp, vg, va, vc, vf], ptC (.ptr pr 0 0) [.int .i64 0, .int .i64 0, .int .i64 0], rowC v 1 ((List.range (x.funcs.length + 1)).map (stepR p3 p0))] z := hS.sel [2, 3, 0, 1, 4] rfl (by decide);refine wc_loop_at (fun jj m z => ∃ i : Nat, jj = x.funcs.length + 1 - i ∧ i ≤ x.funcs.length + 1 ∧ m = [(2, .ptr pr 0 0), (3, .ptr p3 0 0), (22, v), (23, .int .i64 ((x.funcs.length + 1 : Nat) : Int)), (24, .int .i64 (i : Nat))] ∧ SH s [ckP p2 vp vg va vc vf (firstF ((List.range i).flatMap (stepT x))), ptC (.ptr p3 0 0) [.ptr p2 0 0], ptC (.ptr p0 0 0) [vp, vg, va, vc, vf], ptC (.ptr pr 0 0) [.int .i64 0, .int .i64 0, .int .i64 0], rowC v 1 ((List.range (x.funcs.length + 1)).map (stepR p3 p0))] z) (x.funcs.length + 1)
   [(2, .ptr pr 0 0), (3, .ptr p3 0 0), (22, v), (23, .int .i64 ((x.funcs.length + 1 : Nat) : Int)), (24, .int .i64 ((0 : Nat) : Int))] (scn rfl (scn rfl (scn rfl (scn rfl (scn rfl (Sub.nil _)))))) ⟨0, by simp, by simp, rfl, hS⟩ ?_
  clear hS hK;rintro jj m z ⟨i, rfl, hi, rfl, hS⟩;have hK := hS.K;refine aq1 ?_;refine wcd (fun h25 => ?_) (fun h25 => ?_)
  ·refine aq0 ?_;have hri : (List.range (x.funcs.length + 1))[i]? = some i := by rw [List.getElem?_range (by omega)]
   refine aq1 ?_;refine wvz (op_idxF rfl rfl (natA_cast _ _) rfl rfl rfl rfl (hS.row 4 rfl) (by (simp; omega))) ?_;refine wvz (v := .fn (stepF i) (stepC p3 p0 i)) (oM (Row.mk_pt (hS.row 4 rfl) hri)) ?_;refine aq2 ?_;refine wvz (oL 1 hS) ?_;refine aq3 ?_;refine wvz (oL 0 hS) ?_;refine aq1 ?_;refine wc_condT rfl (fun h34 => ?_) (fun h34 => ?_)
   ·simp only [ne_eq, bne_iff_ne] at h34;refine aq0 ?_;refine cut_n ?_;refine ⟨(scn rfl (scn rfl (Sub.nil _))), ?_⟩;have e : firstF (checkL x) = firstF ((List.range i).flatMap (stepT x)) := by
     obtain ⟨r, hr⟩ := range_split (stepT x) hi;rw [checkL, hr, firstF_more (good_check x i) h34]
    rw [e];exact hS
   simp only [bne_eq_false_iff_eq] at h34;refine aq2 ?_;refine wvz (op_sub rfl rfl (by unfold In64; omega)) ?_;refine w_call rfl rfl (op_call rfl rfl rfl rfl) (step_ok hS hx hfi hv (by omega)) ?_;clear hS hK;rintro _ z ⟨hS, rfl⟩;refine aq0 ?_;refine wad ?_;refine aq1 ?_;exact rn ⟨i + 1, rfl, by omega, rfl, hS⟩
  obtain rfl : i = x.funcs.length + 1 := by omega
  refine aq0 ?_;refine cut_n ?_;exact ⟨(scn rfl (scn rfl (Sub.nil _))), hS⟩
 clear hS hK;rintro m z ⟨hm, hS⟩;refine wc_sub hm ?_;refine aq0 ?_;refine wvz (v := .ptr p2 0 0) (oL 1 hS) ?_;refine aq2 ?_;refine wvz (v := .agg (fltC (firstF (checkL x)))) (oL 0 hS) ?_;refine ws_store 3 hS rfl rfl rfl rfl rfl rfl rfl (nl rfl) ?_;rintro z hS;have hS : SH s [ckP p2 vp vg va vc vf (firstF (checkL x)), ptC (.ptr p3 0 0) [.ptr p2 0 0], ptC (.ptr p0 0 0) [vp, vg, va, vc, vf], ptC (.ptr pr 0 0) (fltC (firstF (checkL x))), rowC v 1 ((List.range (x.funcs.length + 1)).map (stepR p3 p0))] z := hS;have hK := hS.K;refine aq0 ?_;exact ⟨_, res_cell rfl rfl (hS.pt 3 rfl) rfl, hK, rfl⟩
-- unused hook: knt11
end Go.Ab
namespace Go.Ab
open Go.Proofs
def hasI (a : Int) (k : Nat) : Bool := IntKind.u64.wrap ((BitVec.ofInt 64 (a.fdiv (2 ^ (min k 64))) &&& BitVec.ofInt 64 1).toNat : Int) == 1
theorem wrapNat {n : Nat} (h : n < 2 ^ 64) : IntKind.u64.wrap (n : Int) = n := wrapU64 (by omega) (by omega)
theorem hasI_nat {n : Nat} (hn : n < 2 ^ 64) {k : Nat} (hk : k < 64) : hasI n k = n.testBit k := by
 unfold hasI;rw [Nat.min_eq_left (by omega)];have e1 : ((n : Int).fdiv (2 ^ k)) = ((n >>> k : Nat) : Int) := by
  rw [Nat.shiftRight_eq_div_pow, show (2 : Int) ^ k = ((2 ^ k : Nat) : Int) from (Int.natCast_pow 2 k).symm];rw [Int.fdiv_eq_ediv_of_nonneg _ (Int.natCast_nonneg _), Int.natCast_ediv]
 rw [e1, wrapNat (BitVec.isLt _)];have e3 : BitVec.ofInt 64 ((n >>> k : Nat) : Int) = BitVec.ofNat 64 (n >>> k) := rfl;rw [e3];have e4 : (BitVec.ofNat 64 (n >>> k) &&& BitVec.ofInt 64 1).toNat = (n >>> k) % 2 := by
  have : BitVec.ofInt 64 1 = 1#64 := rfl;rw [this, BitVec.toNat_and, BitVec.toNat_ofNat, BitVec.toNat_ofNat];rw [Nat.mod_eq_of_lt (Nat.lt_of_le_of_lt (Nat.shiftRight_le n k) hn)];exact Nat.and_one_is_mod _
 rw [e4];rw [Nat.testBit_eq_decide_div_mod_eq, Nat.shiftRight_eq_div_pow];rw [Bool.eq_iff_iff];simp only [beq_iff_eq, dtt];omega
theorem forN_bits {n : Nat} {l : Int} (hl : U64 l) : forN n l = true ↔ ∃ k, n ≤ k ∧ k < 64 ∧ hasI l k = true := by
 obtain ⟨m, rfl⟩ : ∃ m : Nat, l = m := ⟨l.toNat, by have := hl.1; omega⟩;have hm : m < 2 ^ 64 := by have := hl.2; omega
 have e1 : ((m : Int).fdiv (2 ^ n)) = ((m >>> n : Nat) : Int) := by
  rw [Nat.shiftRight_eq_div_pow, show (2 : Int) ^ n = ((2 ^ n : Nat) : Int) from (Int.natCast_pow 2 n).symm];rw [Int.fdiv_eq_ediv_of_nonneg _ (Int.natCast_nonneg _), Int.natCast_ediv]
 unfold forN;rw [e1, Bool.and_eq_true, dtt, dtt]
 constructor
 ·rintro ⟨hn, h⟩;have h0 : m >>> n ≠ 0 := by omega
  obtain ⟨i, hi⟩ := Nat.exists_testBit_of_ne_zero h0;rw [Nat.testBit_shiftRight] at hi;have hlt : n + i < 64 := by
   rcases Nat.lt_or_ge (n + i) 64 with h | h
   ·exact h
   ·rw [Nat.testBit_lt_two_pow (Nat.lt_of_lt_of_le hm (Nat.pow_le_pow_right (by omega) h))] at hi; cases hi
  exact ⟨n + i, by omega, hlt, by rw [hasI_nat hm hlt]; exact hi⟩
 ·rintro ⟨k, h1, h2, h3⟩;refine ⟨by omega, fun h => ?_⟩;rw [hasI_nat hm h2] at h3;have : (m >>> n).testBit (k - n) = true := by rw [Nat.testBit_shiftRight, show n + (k - n) = k by omega]; exact h3
  rw [show m >>> n = 0 by omega] at this;simp at this
def useR (s : SrcL) (f : Int) (nm : ByteArray) (a b : Int) : Int := if (fN s f nm).1 = 0 then 71 else if (fN s f nm).1 ≠ a ∧ (fN s f nm).1 ≠ b then 72 else 0
section
variable {s : SrcL} {f a b : Int} {nm : ByteArray}
theorem useR_a (h : ¬ (fN s f nm).1 = 0) (h1 : ¬ (fN s f nm).1 = a) (h2 : ¬ (fN s f nm).1 = b) : useR s f nm a b = 72 := by rw [useR, if_neg h, if_pos ⟨h1, h2⟩]
theorem useR_b (h : ¬ (fN s f nm).1 = 0) (h1 : (fN s f nm).1 = a) : useR s f nm a b = 0 := by rw [useR, if_neg h, if_neg (fun k => k.1 h1)]
theorem useR_c (h : ¬ (fN s f nm).1 = 0) (h1 : (fN s f nm).1 = b) : useR s f nm a b = 0 := by rw [useR, if_neg h, if_neg (fun k => k.2 h1)]
end
def dE (e : DE) : List AV := [.str e.name, .bool (decide ((e.i : Int) ≥ e.most)), .int .i64 e.long, .int .u64 e.label]
theorem SH.app1 {s0 s1 s' : St} {X : List Nat} {L : List Chunk} {sz : Nat} {v v2 : AV} {css ns : List (List AV)} (n : Nat) (hS : SH s0 L s1 X) (hn : L[n]? = some (rowC v sz css)) (hk : Keep v.gs s1 s') (hv : Row s'.h sz v2 ns) (hvg : v2.gs = v.gs ∨ v2.gs = [s1.ctr]) (hvn : v2.gs = [] → v2 = .nils) : SH s0 (L.set n (rowC v2 sz ns)) s' X := by
 refine hS.upd n hn hk (fun g hg => hg) _ ⟨hv, hvn⟩ fun g hg => ?_;rcases hvg with h | h
 ·exact .inl (by have hg : g ∈ v2.gs := hg; rwa [h] at hg)
 ·have hg : g ∈ v2.gs := hg;exact .inr ⟨by rw [h] at hg; rw [msi.1 hg]; exact nlr _, hv.lt hk.ok _ hg⟩
theorem deepA_le (ks : List Int) : ∀ i : Nat, (deepA ks i).1 ≤ (deepA ks i).2
 | 0 => by simp [deepA]
 | i + 1 => by
  have := deepA_le ks i;have := deepA_b ks i;unfold deepA;split
  ·simp only; split <;> omega
  ·split
   ·simp only; omega
   ·omega
theorem deepA_mono (ks : List Int) {i : Nat} : ∀ {n : Nat}, i ≤ n → (deepA ks i).2 ≤ (deepA ks n).2
 | 0, h => by rw [show i = 0 by omega]; exact Int.le_refl _
 | n + 1, h => by
  rcases Nat.lt_or_ge n i with k | k
  ·rw [show i = n + 1 by omega]; exact Int.le_refl _
  ·have := deepA_mono ks k;refine Int.le_trans this ?_;rw [deepA];split
   ·simp only; split <;> omega
   ·split
    ·simp only; omega
    ·exact Int.le_refl _
def nestN (ks : List Int) : Bool := decide ((deepA ks ks.length).2 ≤ 12) && (ends2 ks).isSome
theorem at_ok {s : St} {e f a : Int} (hok : s.Ok) :
  CallS Try.prog Tt Kt 70 [.int .i64 e, .int .i64 f, .int .i64 a] s fun r s' => Keep [] s s' ∧ r = .agg (fltC ⟨e, f, a⟩) := by
 refine cof 11 Try.func70 ?_;refine aq0 ?_;have hS := SH.start hok;refine aq0 ?_;refine ws_alloc hS rfl rfl rfl rfl ?_;rintro p6 z hS hk;have hS : SH _ [_] z _ := hS;refine aq3 ?_;refine wvz (v := .agg (fltC ⟨e, f, a⟩)) (op_pure rfl) ?_;refine ws_store 0 hS rfl rfl rfl rfl rfl rfl (by rfl) (nl rfl) ?_;rintro z hS;have hS : SH _ [_] z _ := hS;have hK := hS.K;refine aq0 ?_;exact ⟨_, res_cell rfl rfl (hS.pt 0 rfl) rfl, hK, rfl⟩
theorem use_ref_ok {s : St} {c : List AV} {x : SrcL} {f a b : Int} {nm : ByteArray} (hok : s.Ok) (hx : x.small) (hv : SrcP x c) :
  CallS Try.prog Tt Kt 119 [.agg c, .int .i64 f, .str nm, .int .i64 a, .int .i64 b] s fun r s' => Keep [] s s' ∧ r = .int .i64 (useR x f nm a b) := by
 have hz := hv.leaf;obtain ⟨vp, vg, va, vc, vf, rfl, hvp, hvg, hva, hvc, csf, hrf, hlf, hF⟩ := id hv;obtain ⟨hl1, hl2, hl3, hl4, hl5, hsm⟩ := id hx;have hsf : vf.slen = some x.funcs.length := by rw [hrf.slen, hlf]
 refine cof 30 Try.func119 ?_;refine aq0 ?_;have hS := SH.start hok;refine aq0 ?_;refine ws_box hS rfl rfl rfl hz ?_;rintro p0 z hS hk;have hS : SH _ [_] z _ := hS;refine aq1 ?_;refine wvz (v := .agg [vp, vg, va, vc, vf]) (oL 0 hS) ?_;refine aq2 ?_;refine wkz (find_ref_ok hS.ok hx hv) ?_;rintro _ z ⟨hk, rfl⟩;have hS := hS.mov hk;have hK := hS.K;refine aq7 ?_;refine wcb (fun h21 => ?_) (fun h21 => ?_)
 ·refine aq1 ?_;exact ⟨_, rfl, hK, by rw [useR, if_pos h21]; rfl⟩
 refine aq4 ?_;refine w_split (i := 25) rfl (fun h25 => ?_) (fun h25 => ?_)
 ·simp only [ne_eq, bne_iff_ne] at h25;refine aq4 ?_;refine wc_condT rfl (fun h29 => ?_) (fun h29 => ?_)
  ·simp only [ne_eq, bne_iff_ne] at h29;refine aq1 ?_
   first
   | exact ⟨_, rfl, hK, congrArg (AV.int .i64) (useR_a h21 h25 h29).symm⟩
   | exact ⟨_, rfl, hK, congrArg (AV.int .i64) (useR_b h21 h25).symm⟩
   | exact ⟨_, rfl, hK, congrArg (AV.int .i64) (useR_c h21 h29).symm⟩
  simp only [bne_eq_false_iff_eq] at h29;refine aq1 ?_
  first
  | exact ⟨_, rfl, hK, congrArg (AV.int .i64) (useR_a h21 h25 h29).symm⟩
  | exact ⟨_, rfl, hK, congrArg (AV.int .i64) (useR_b h21 h25).symm⟩
  | exact ⟨_, rfl, hK, congrArg (AV.int .i64) (useR_c h21 h29).symm⟩
 simp only [bne_eq_false_iff_eq] at h25;refine aq4 ?_;refine wc_cond_f rfl ?_;refine aq1 ?_
 first
 | exact ⟨_, rfl, hK, congrArg (AV.int .i64) (useR_a h21 h25 h29).symm⟩
 | exact ⟨_, rfl, hK, congrArg (AV.int .i64) (useR_b h21 h25).symm⟩
 | exact ⟨_, rfl, hK, congrArg (AV.int .i64) (useR_c h21 h29).symm⟩
theorem foreign_ref_ok {s : St} {c : List AV} {x : SrcL} {l : Int} (hok : s.Ok) (hx : x.small) (hv : SrcP x c) (hl : U64 l) :
  CallS Try.prog Tt Kt 115 [.agg c, .int .u64 l] s fun r s' => Keep [] s s' ∧ r = .bool (forN x.principals.length l) := by
 have hz := hv.leaf;obtain ⟨vp, vg, va, vc, vf, rfl, hvp, hvg, hva, hvc, csf, hrf, hlf, hF⟩ := id hv;obtain ⟨hl1, hl2, hl3, hl4, hl5, hsm⟩ := id hx;have hsf : vf.slen = some x.funcs.length := by rw [hrf.slen, hlf]
 refine cof 19 Try.func115 ?_;refine aq0 ?_;have hS := SH.start hok;refine aq0 ?_;refine ws_box hS rfl rfl rfl hz ?_;rintro p0 z hS hk;have hS : SH _ [_] z _ := hS;have hK := hS.K;refine aq2 ?_;refine wvz (v := vp) (oL 0 hS) ?_;refine wvz (op_len rfl rfl rfl rfl rfl (RowP.slen hvp |>.trans (by rw [lmm]))) ?_;refine aq1 ?_;refine wc_loop_at (fun jj m z => ∃ k : Nat, jj = 64 - k ∧ x.principals.length ≤ k ∧ m = [(1, .int .u64 l), (5, .int .i64 (k : Nat))] ∧ Keep [] s z ∧ ∀ j, x.principals.length ≤ j → j < k → j < 64 → hasI l j = false) (64 - x.principals.length)
  [(1, .int .u64 l), (5, .int .i64 (x.principals.length : Nat))] (scn rfl (scn rfl (Sub.nil _))) ⟨x.principals.length, rfl, nlr _, rfl, hK, fun j h1 h2 => by omega⟩ ?_
 clear hS hK;rintro jj m z ⟨k, rfl, hk, rfl, hK, hq⟩;refine aq2 ?_;refine wcd (fun h10 => ?_) (fun h10 => ?_)
 ·refine aq2 ?_;refine wvz (op_cv (r := (k : Nat)) rfl rfl rfl rfl rfl (wrapU64 (by omega) (by omega))) ?_;refine wvz (op_bin rfl rfl (shr_u64 k)) ?_;refine wvz (op_bin rfl rfl rfl) ?_;refine wvz (v := .bool (hasI l k)) (op_bin rfl rfl rfl) ?_;refine aq0 ?_;refine wc_condT rfl (fun h18 => ?_) (fun h18 => ?_)
  ·refine aq1 ?_;exact ⟨_, rfl, hK, congrArg AV.bool ((forN_bits hl).2 ⟨k, hk, by omega, h18⟩).symm⟩
  refine aq1 ?_;refine wad ?_;refine aq1 ?_;exact rn ⟨k + 1, rfl, by omega, rfl, hK, fun j h1 h2 h3 => (lsl.1 h2).elim (fun h => hq j h1 h h3) fun e => by rw [e]; exact h18⟩
 refine aq1 ?_;refine ⟨_, rfl, hK, congrArg AV.bool ?_⟩;cases e : forN x.principals.length l with
 | false => rfl
 | true =>
  obtain ⟨j, h1, h2, h3⟩ := (forN_bits hl).1 e;rw [hq j h1 (by omega) h2] at h3; cases h3
theorem decls_ok {s : St} {c : List AV} {x : SrcL} (hok : s.Ok) (hx : x.small) (hv : SrcP x c) :
  CallS Try.prog Tt Kt 114 [.agg c] s fun r s' => Keep [] s s' ∧ RowP 4 r ((esN x).map dE) := by
 have hz := hv.leaf;obtain ⟨vp, vg, va, vc, vf, rfl, hvp, hvg, hva, hvc, csf, hrf, hlf, hF⟩ := id hv;obtain ⟨hl1, hl2, hl3, hl4, hl5, hsm⟩ := id hx;have hsf : vf.slen = some x.funcs.length := by rw [hrf.slen, hlf]
 have hel := esN_len x;refine CallS.row hok ?_;refine cof 109 Try.func114 ?_;refine aq0 ?_;have hS := SH.start hok;refine aq0 ?_;refine ws_box hS rfl rfl rfl hz ?_;rintro p0 z hS hk;have hS : SH _ [_] z _ := hS;have hK := hS.K;refine aq1 ?_;have hS : SH s [ptC (.ptr p0 0 0) [vp, vg, va, vc, vf]] z := hS;have hS := hS.nil 4;have hS : SH s [ptC (.ptr p0 0 0) [vp, vg, va, vc, vf], rowC .nils 4 (((esN x).take (0 + 0)).map dE)] z := hS;refine aq2 ?_;refine wc_loop_at (fun jj m z => ∃ (i : Nat) (v : AV), jj = x.globals.length - i ∧ i ≤ x.globals.length ∧ m = [(1, .ptr p0 0 0), (3, v), (4, .int .i64 (i : Nat))] ∧ SH s [ptC (.ptr p0 0 0) [vp, vg, va, vc, vf], rowC v 4 (((esN x).take (0 + i)).map dE)] z) x.globals.length
  [(1, .ptr p0 0 0), (3, .nils), (4, .int .i64 ((0 : Nat) : Int))] (scn rfl (scn rfl (scn rfl (Sub.nil _)))) ⟨0, .nils, by simp, by simp, rfl, hS⟩ ?_
 clear hS hK;rintro jj m z ⟨i, v, rfl, hi, rfl, hS⟩;have hK := hS.K;refine aq2 ?_;refine wvz (v := vg) (oL 0 hS) ?_;refine wvz (op_len rfl rfl rfl rfl rfl (RowP.slen hvg |>.trans (by rw [lmm]))) ?_;refine aq1 ?_;refine wcd (fun h12 => ?_) (fun h12 => ?_)
 ·refine aq0 ?_;obtain ⟨d, hd⟩ : ∃ d, x.globals[i]? = some d := ⟨_, gee (by omega)⟩;have hR := Keep.refl (s := z) hS.ok;refine wc_draw (Old z (v.gs)) (by kernel_rfl) rfl ?_;refine aq2 ?_;refine wo_load hR rfl rfl ((hS.pt 0 rfl).at (nl rfl)) rfl (hS.dis 0 1 _ _ (by decide) rfl rfl) rfl rfl ?_;refine aq1 ?_;refine wov (oJ (RowP.up hvg z.h)) ?_;refine wov (oF (Row.mk_pt (RowP.up hvg z.h) hd)) ?_;refine wol hR (v := .str d.name) (Pt.fld (Row.mk_pt (RowP.up hvg z.h) hd) _ (nl rfl)) (no_gs (fld_gs (RowP.egs hvg _))) ?_;refine aq3 ?_;refine wo_load hR rfl rfl ((hS.pt 0 rfl).at (nl rfl)) rfl (hS.dis 0 1 _ _ (by decide) rfl rfl) rfl rfl ?_;refine aq1 ?_;refine wov (oJ (RowP.up hvg z.h)) ?_;refine wov (oF (Row.mk_pt (RowP.up hvg z.h) hd)) ?_;refine wol hR (v := .int .u64 d.label) (Pt.fld (Row.mk_pt (RowP.up hvg z.h) hd) _ (nl rfl)) (no_gs (fld_gs (RowP.egs hvg _))) ?_;refine wo_val (fun _ => rfl) (v := .agg [.str d.name, .bool (decide ((i : Int) ≥ 32)), .int .i64 1, .int .u64 d.label]) rfl rfl (op_pure rfl) ?_;refine wo_lit (c := [.str d.name, .bool (decide ((i : Int) ≥ 32)), .int .i64 1, .int .u64 d.label]) [[.str d.name, .bool (decide ((i : Int) ≥ 32)), .int .i64 1, .int .u64 d.label]] hR rfl rfl rfl rfl rfl rfl rfl (by decide) (by decide) rfl rfl rfl (by intro c hc; rw [msi.1 hc]; exact ⟨rfl, rfl⟩) rfl ?_;rintro l1 sA hl1 hkA - -;have hR := hR.two hkA;refine wo_append hR (fun g hg => .inr hg) rfl rfl rfl rfl rfl rfl rfl rfl rfl (by decide) ((hS.row 1 rfl).keep0 hR) (hS.nls 1 rfl) hl1 (by (simp only [lmm, lnn, lcc, List.length_take, maxBytes]; omega)) (by (simp only [lmm, lnn, lcc, List.length_take, maxBytes]; omega)) ?_;rintro v2 sB hv2 hkB - hgB hnB -;refine aq1 ?_;have hS := (hS.mov hR).app1 1 rfl hkB hv2 hgB hnB;generalize sB = z at hS ⊢;refine aq1 ?_;refine wad ?_;refine aq1 ?_;have hS : SH s [ptC (.ptr p0 0 0) [vp, vg, va, vc, vf], rowC v2 4 (((esN x).take (0 + (i + 1))).map dE)] z := by
   have e : ((esN x).take (0 + (i + 1))).map dE = ((esN x).take (0 + i)).map dE ++ [[.str d.name, .bool (decide ((i : Int) ≥ 32)), .int .i64 1, .int .u64 d.label]] := by
    rw [show 0 + (i + 1) = 0 + i + 1 by omega, ← take_snoc (show (esN x)[0 + i]? = some _ by rw [Nat.zero_add]; exact esN_g hd), List.map_append]; rfl
   rw [e];exact hS
  exact rn ⟨i + 1, v2, rfl, by omega, rfl, hS⟩
 obtain rfl : i = x.globals.length := by omega
 rw [show 0 + x.globals.length = x.globals.length + 0 by omega] at hS;refine aq1 ?_;refine wc_loop_at (fun jj m z => ∃ (i : Nat) (v : AV), jj = x.arrays.length - i ∧ i ≤ x.arrays.length ∧ m = [(1, .ptr p0 0 0), (3, v), (5, .int .i64 (i : Nat))] ∧ SH s [ptC (.ptr p0 0 0) [vp, vg, va, vc, vf], rowC v 4 (((esN x).take (x.globals.length + i)).map dE)] z) x.arrays.length
  [(1, .ptr p0 0 0), (3, v), (5, .int .i64 ((0 : Nat) : Int))] (scn rfl (scn rfl (scn rfl (Sub.nil _)))) ⟨0, v, by simp, by simp, rfl, hS⟩ ?_
 clear hS hK;rintro jj m z ⟨i, v, rfl, hi, rfl, hS⟩;have hK := hS.K;refine aq2 ?_;refine wvz (v := va) (oL 0 hS) ?_;refine wvz (op_len rfl rfl rfl rfl rfl (RowP.slen hva |>.trans (by rw [lmm]))) ?_;refine aq1 ?_;refine wcd (fun h37 => ?_) (fun h37 => ?_)
 ·refine aq0 ?_;obtain ⟨d, hd⟩ : ∃ d, x.arrays[i]? = some d := ⟨_, gee (by omega)⟩;have hR := Keep.refl (s := z) hS.ok;refine wc_draw (Old z (v.gs)) (by kernel_rfl) rfl ?_;refine aq2 ?_;refine wo_load hR rfl rfl ((hS.pt 0 rfl).at (nl rfl)) rfl (hS.dis 0 1 _ _ (by decide) rfl rfl) rfl rfl ?_;refine aq1 ?_;refine wov (oJ (RowP.up hva z.h)) ?_;refine wov (oF (Row.mk_pt (RowP.up hva z.h) hd)) ?_;refine wol hR (v := .str d.name) (Pt.fld (Row.mk_pt (RowP.up hva z.h) hd) _ (nl rfl)) (no_gs (fld_gs (RowP.egs hva _))) ?_;refine aq3 ?_;refine wo_load hR rfl rfl ((hS.pt 0 rfl).at (nl rfl)) rfl (hS.dis 0 1 _ _ (by decide) rfl rfl) rfl rfl ?_;refine aq1 ?_;refine wov (oJ (RowP.up hva z.h)) ?_;refine wov (oF (Row.mk_pt (RowP.up hva z.h) hd)) ?_;refine wol hR (v := .int .i64 d.len) (Pt.fld (Row.mk_pt (RowP.up hva z.h) hd) _ (nl rfl)) (no_gs (fld_gs (RowP.egs hva _))) ?_;refine aq1 ?_;refine wo_load hR rfl rfl ((hS.pt 0 rfl).at (nl rfl)) rfl (hS.dis 0 1 _ _ (by decide) rfl rfl) rfl rfl ?_;refine aq1 ?_;refine wov (oJ (RowP.up hva z.h)) ?_;refine wov (oF (Row.mk_pt (RowP.up hva z.h) hd)) ?_;refine wol hR (v := .int .u64 d.label) (Pt.fld (Row.mk_pt (RowP.up hva z.h) hd) _ (nl rfl)) (no_gs (fld_gs (RowP.egs hva _))) ?_;refine wo_val (fun _ => rfl) (v := .agg [.str d.name, .bool (decide ((i : Int) ≥ 16)), .int .i64 d.len, .int .u64 d.label]) rfl rfl (op_pure rfl) ?_;refine wo_lit (c := [.str d.name, .bool (decide ((i : Int) ≥ 16)), .int .i64 d.len, .int .u64 d.label]) [[.str d.name, .bool (decide ((i : Int) ≥ 16)), .int .i64 d.len, .int .u64 d.label]] hR rfl rfl rfl rfl rfl rfl rfl (by decide) (by decide) rfl rfl rfl (by intro c hc; rw [msi.1 hc]; exact ⟨rfl, rfl⟩) rfl ?_;rintro l1 sA hl1 hkA - -;have hR := hR.two hkA;refine wo_append hR (fun g hg => .inr hg) rfl rfl rfl rfl rfl rfl rfl rfl rfl (by decide) ((hS.row 1 rfl).keep0 hR) (hS.nls 1 rfl) hl1 (by (simp only [lmm, lnn, lcc, List.length_take, maxBytes]; omega)) (by (simp only [lmm, lnn, lcc, List.length_take, maxBytes]; omega)) ?_;rintro v2 sB hv2 hkB - hgB hnB -;refine aq1 ?_;have hS := (hS.mov hR).app1 1 rfl hkB hv2 hgB hnB;generalize sB = z at hS ⊢;refine aq1 ?_;refine wad ?_;refine aq1 ?_;have hS : SH s [ptC (.ptr p0 0 0) [vp, vg, va, vc, vf], rowC v2 4 (((esN x).take (x.globals.length + (i + 1))).map dE)] z := by
   have e : ((esN x).take (x.globals.length + (i + 1))).map dE = ((esN x).take (x.globals.length + i)).map dE ++ [[.str d.name, .bool (decide ((i : Int) ≥ 16)), .int .i64 d.len, .int .u64 d.label]] := by
    rw [show x.globals.length + (i + 1) = x.globals.length + i + 1 by omega, ← take_snoc (show (esN x)[x.globals.length + i]? = some _ by exact esN_a hd), List.map_append]; rfl
   rw [e];exact hS
  exact rn ⟨i + 1, v2, rfl, by omega, rfl, hS⟩
 obtain rfl : i = x.arrays.length := by omega
 rw [show x.globals.length + x.arrays.length = (x.globals.length + x.arrays.length) + 0 by omega] at hS;refine aq1 ?_;refine wc_loop_at (fun jj m z => ∃ (i : Nat) (v : AV), jj = x.channels.length - i ∧ i ≤ x.channels.length ∧ m = [(1, .ptr p0 0 0), (3, v), (6, .int .i64 (i : Nat))] ∧ SH s [ptC (.ptr p0 0 0) [vp, vg, va, vc, vf], rowC v 4 (((esN x).take ((x.globals.length + x.arrays.length) + i)).map dE)] z) x.channels.length
  [(1, .ptr p0 0 0), (3, v), (6, .int .i64 ((0 : Nat) : Int))] (scn rfl (scn rfl (scn rfl (Sub.nil _)))) ⟨0, v, by simp, by simp, rfl, hS⟩ ?_
 clear hS hK;rintro jj m z ⟨i, v, rfl, hi, rfl, hS⟩;have hK := hS.K;refine aq2 ?_;refine wvz (v := vc) (oL 0 hS) ?_;refine wvz (op_len rfl rfl rfl rfl rfl (RowP.slen hvc |>.trans (by rw [lmm]))) ?_;refine aq1 ?_;refine wcd (fun h68 => ?_) (fun h68 => ?_)
 ·refine aq0 ?_;obtain ⟨d, hd⟩ : ∃ d, x.channels[i]? = some d := ⟨_, gee (by omega)⟩;have hR := Keep.refl (s := z) hS.ok;refine wc_draw (Old z (v.gs)) (by kernel_rfl) rfl ?_;refine aq2 ?_;refine wo_load hR rfl rfl ((hS.pt 0 rfl).at (nl rfl)) rfl (hS.dis 0 1 _ _ (by decide) rfl rfl) rfl rfl ?_;refine aq1 ?_;refine wov (oJ (RowP.up hvc z.h)) ?_;refine wov (oF (Row.mk_pt (RowP.up hvc z.h) hd)) ?_;refine wol hR (v := .str d.name) (Pt.fld (Row.mk_pt (RowP.up hvc z.h) hd) _ (nl rfl)) (no_gs (fld_gs (RowP.egs hvc _))) ?_;refine aq3 ?_;refine wo_load hR rfl rfl ((hS.pt 0 rfl).at (nl rfl)) rfl (hS.dis 0 1 _ _ (by decide) rfl rfl) rfl rfl ?_;refine aq1 ?_;refine wov (oJ (RowP.up hvc z.h)) ?_;refine wov (oF (Row.mk_pt (RowP.up hvc z.h) hd)) ?_;refine wol hR (v := .int .u64 d.label) (Pt.fld (Row.mk_pt (RowP.up hvc z.h) hd) _ (nl rfl)) (no_gs (fld_gs (RowP.egs hvc _))) ?_;refine wo_val (fun _ => rfl) (v := .agg [.str d.name, .bool (decide ((i : Int) ≥ 16)), .int .i64 1, .int .u64 d.label]) rfl rfl (op_pure rfl) ?_;refine wo_lit (c := [.str d.name, .bool (decide ((i : Int) ≥ 16)), .int .i64 1, .int .u64 d.label]) [[.str d.name, .bool (decide ((i : Int) ≥ 16)), .int .i64 1, .int .u64 d.label]] hR rfl rfl rfl rfl rfl rfl rfl (by decide) (by decide) rfl rfl rfl (by intro c hc; rw [msi.1 hc]; exact ⟨rfl, rfl⟩) rfl ?_;rintro l1 sA hl1 hkA - -;have hR := hR.two hkA;refine wo_append hR (fun g hg => .inr hg) rfl rfl rfl rfl rfl rfl rfl rfl rfl (by decide) ((hS.row 1 rfl).keep0 hR) (hS.nls 1 rfl) hl1 (by (simp only [lmm, lnn, lcc, List.length_take, maxBytes]; omega)) (by (simp only [lmm, lnn, lcc, List.length_take, maxBytes]; omega)) ?_;rintro v2 sB hv2 hkB - hgB hnB -;refine aq1 ?_;have hS := (hS.mov hR).app1 1 rfl hkB hv2 hgB hnB;generalize sB = z at hS ⊢;refine aq1 ?_;refine wad ?_;refine aq1 ?_;have hS : SH s [ptC (.ptr p0 0 0) [vp, vg, va, vc, vf], rowC v2 4 (((esN x).take ((x.globals.length + x.arrays.length) + (i + 1))).map dE)] z := by
   have e : ((esN x).take ((x.globals.length + x.arrays.length) + (i + 1))).map dE = ((esN x).take ((x.globals.length + x.arrays.length) + i)).map dE ++ [[.str d.name, .bool (decide ((i : Int) ≥ 16)), .int .i64 1, .int .u64 d.label]] := by
    rw [show (x.globals.length + x.arrays.length) + (i + 1) = (x.globals.length + x.arrays.length) + i + 1 by omega, ← take_snoc (show (esN x)[(x.globals.length + x.arrays.length) + i]? = some _ by exact esN_c hd), List.map_append]; rfl
   rw [e];exact hS
  exact rn ⟨i + 1, v2, rfl, by omega, rfl, hS⟩
 obtain rfl : i = x.channels.length := by omega
 rw [show (x.globals.length + x.arrays.length) + x.channels.length = (x.globals.length + x.arrays.length + x.channels.length) + 0 by omega] at hS;refine aq1 ?_;refine wc_loop_at (fun jj m z => ∃ (i : Nat) (v : AV), jj = x.funcs.length - i ∧ i ≤ x.funcs.length ∧ m = [(1, .ptr p0 0 0), (3, v), (7, .int .i64 (i : Nat))] ∧ SH s [ptC (.ptr p0 0 0) [vp, vg, va, vc, vf], rowC v 4 (((esN x).take ((x.globals.length + x.arrays.length + x.channels.length) + i)).map dE)] z) x.funcs.length
  [(1, .ptr p0 0 0), (3, v), (7, .int .i64 ((0 : Nat) : Int))] (scn rfl (scn rfl (scn rfl (Sub.nil _)))) ⟨0, v, by simp, by simp, rfl, hS⟩ ?_
 clear hS hK;rintro jj m z ⟨i, v, rfl, hi, rfl, hS⟩;have hK := hS.K;refine aq2 ?_;refine wvz (v := vf) (oL 0 hS) ?_;refine wvz (oN hsf) ?_;refine aq1 ?_;refine wcd (fun h93 => ?_) (fun h93 => ?_)
 ·refine aq0 ?_;obtain ⟨d, hd⟩ : ∃ d, x.funcs[i]? = some d := ⟨_, gee (by omega)⟩;obtain ⟨cy, hcy⟩ : ∃ c, csf[i]? = some c := ⟨_, gee (by omega)⟩;obtain ⟨yp, yr, yv, yb, rfl, hyp, hyr, hyv, hyb⟩ := hF i d cy hd hcy;refine aq2 ?_;refine wvz (v := vf) (oL 0 hS) ?_;refine aq1 ?_;refine wvz (oI (RowP.up hrf _)) ?_;refine wvz (oF (Row.pt (RowP.up hrf z.h) hcy)) ?_;refine wvz (v := .str d.name) (oM (Pt.fld (Row.pt (RowP.up hrf z.h) hcy) _ (nl rfl))) ?_;refine aq2 ?_;refine wvz (v := .agg [.str d.name, .bool (decide ((i : Int) ≥ 32)), .int .i64 1, .int .u64 0]) (op_pure rfl) ?_;refine ws_lit1 hS rfl rfl rfl rfl rfl rfl rfl rfl (by decide) (by decide) rfl (by rfl) rfl ?_;rintro lt106 z hS hk hlt106;refine ws_append 1 hS rfl rfl rfl rfl rfl rfl rfl rfl rfl rfl rfl (by decide) (hlt106) (by (simp only [lmm, lnn, lcc, List.length_take, maxBytes]; omega)) (by (simp only [lmm, lnn, lcc, List.length_take, maxBytes]; omega)) ?_;rintro at107 z hS;have hS : SH _ [_, _] z _ := hS;refine aq2 ?_;refine wad ?_;refine aq1 ?_;have hS : SH s [ptC (.ptr p0 0 0) [vp, vg, va, vc, vf], rowC at107 4 (((esN x).take ((x.globals.length + x.arrays.length + x.channels.length) + (i + 1))).map dE)] z := by
   have e : ((esN x).take ((x.globals.length + x.arrays.length + x.channels.length) + (i + 1))).map dE = ((esN x).take ((x.globals.length + x.arrays.length + x.channels.length) + i)).map dE ++ [[.str d.name, .bool (decide ((i : Int) ≥ 32)), .int .i64 1, .int .u64 0]] := by
    rw [show (x.globals.length + x.arrays.length + x.channels.length) + (i + 1) = (x.globals.length + x.arrays.length + x.channels.length) + i + 1 by omega, ← take_snoc (show (esN x)[(x.globals.length + x.arrays.length + x.channels.length) + i]? = some _ by exact esN_f hd), List.map_append]; rfl
   rw [e];exact hS
  exact rn ⟨i + 1, at107, rfl, by omega, rfl, hS⟩
 obtain rfl : i = x.funcs.length := by omega
 rw [List.take_of_length_le (by rw [esN_len]; omega)] at hS;refine aq2 ?_;exact ⟨_, rfl, hK, hS.row 1 rfl, fun g hg => (hS.bd 1 rfl g hg).1⟩
theorem nests_ok {s : St} {v : AV} {ks : List Int} (hok : s.Ok) (hkl : ks.length ≤ 2097152) (hkv : KindsR .leaf v ks) :
  CallS Try.prog Tt Kt 117 [v] s fun r s' => Keep [] s s' ∧ r = .bool (nestN ks) := by
 obtain ⟨css, hv, hl, hV⟩ := id hkv;refine cof 47 Try.func117 ?_;refine aq0 ?_;have hK := Keep.refl hok;refine aq2 ?_;refine wkz (ends_ref_ok hok hkl (hkv.up _)) ?_;rintro r z ⟨hK, he⟩;obtain ⟨ea, eb, rfl, -⟩ := he.shape;refine aq9 ?_;refine wc_loop_at (fun jj m z => ∃ i : Nat, jj = ks.length - i ∧ i ≤ ks.length ∧ m = [(0, v), (5, .bool (ends2 ks).isSome), (6, .int .i64 (deepA ks i).1), (7, .int .i64 (i : Nat))] ∧ Keep [] s z ∧ (deepA ks i).1 ≤ 12 ∧ (deepA ks i).2 ≤ 12) ks.length
  [(0, v), (5, .bool (ends2 ks).isSome), (6, .int .i64 0), (7, .int .i64 ((0 : Nat) : Int))] (scn rfl (scn rfl (scn rfl (scn rfl (Sub.nil _))))) ⟨0, by simp, by simp, rfl, hK, by simp [deepA], by simp [deepA]⟩ ?_
 clear hK;rintro jj m z ⟨i, rfl, hi, rfl, hK, hd1, hd2⟩;have hb := deepA_b ks i;refine aq2 ?_;refine wvz (v := .int .i64 (ks.length : Nat)) (op_len rfl rfl rfl rfl rfl (RowP.slen hv |>.trans (by rw [hl]))) ?_;refine aq1 ?_;refine wcd (fun h17 => ?_) (fun h17 => ?_)
 ·refine aq0 ?_;obtain ⟨k, hk⟩ : ∃ k, ks[i]? = some k := ⟨_, gee (by omega)⟩;obtain ⟨cy, hcy⟩ : ∃ c, css[i]? = some c := ⟨_, gee (by omega)⟩;obtain ⟨ca, cb, cd, rfl⟩ := hV i k cy hk hcy;have hgk : ks.getD i 0 = k := gD hk;refine aq2 ?_;refine wvz (oI (RowP.up hv _)) ?_;refine wvz (oF (Row.pt (RowP.up hv z.h) hcy)) ?_;refine wvz (v := .int .i64 k) (oM (Pt.fld (Row.pt (RowP.up hv z.h) hcy) _ (nl rfl))) ?_;refine aq2 ?_;refine w_split (i := 26) rfl (fun h26 => ?_) (fun h26 => ?_)
  ·simp only [beq_iff_eq] at h26;refine aq7 ?_;refine wc_cond_t rfl ?_;refine aq1 ?_;refine wad ?_;refine aq3 ?_;refine wvz (oI (RowP.up hv _)) ?_;refine wvz (oF (Row.pt (RowP.up hv z.h) hcy)) ?_;refine wvz (v := .int .i64 k) (oM (Pt.fld (Row.pt (RowP.up hv z.h) hcy) _ (nl rfl))) ?_;refine aq1 ?_;refine wcb (fun h41 => ?_) (fun h41 => ?_)
   ·refine aq1 ?_;refine wvz (op_sub rfl rfl (by unfold In64; omega)) ?_;refine aq3 ?_;refine wc_condT rfl (fun h45 => ?_) (fun h45 => ?_)
    ·simp only [dtt, gt_iff_lt] at h45;refine aq1 ?_
     first
     | (exfalso; omega)
     | (refine ⟨_, rfl, hK, congrArg AV.bool ?_⟩
        have hle := deepA_le ks (i + 1);have hmo := deepA_mono ks (show i + 1 ≤ ks.length by omega);have h12 : 12 < (deepA ks (i + 1)).1 := by
          rw [deepA]
          first
          | (rw [if_pos (by omega)]; exact h45)
          | (rw [if_neg (by omega), if_pos (by omega)]; exact h45)
          | (rw [if_neg (by omega), if_neg (by omega)]; exact h45)
        rw [nestN, decide_eq_false (by omega)]; rfl)
     | (refine ⟨_, rfl, hK, congrArg AV.bool ?_⟩
        rw [nestN, decide_eq_true hd2, Bool.true_and])
    simp only [dff, gt_iff_lt] at h45;refine aq1 ?_;refine wad ?_;refine aq1 ?_
    first
    | (exfalso; omega)
    | (have hbn : (deepA ks (i + 1)).2 ≤ 12 := by
         rw [deepA]
         first
         | (rw [if_pos (by omega)]; simp only; split <;> omega)
         | (rw [if_neg (by omega), if_pos (by omega)]; simp only; omega)
         | (rw [if_neg (by omega), if_neg (by omega)]; omega)
       have hle := deepA_le ks (i + 1)
       first
       | exact rn ⟨i + 1, rfl, by omega, by rw [deepA, if_pos (by omega)], hK, by omega, hbn⟩
       | exact rn ⟨i + 1, rfl, by omega, by rw [deepA, if_neg (by omega), if_pos (by omega)], hK, by omega, hbn⟩
       | exact rn ⟨i + 1, rfl, by omega, by rw [deepA, if_neg (by omega), if_neg (by omega)], hK, by omega, hbn⟩)
   refine aq2 ?_;refine wc_condT rfl (fun h45 => ?_) (fun h45 => ?_)
   ·simp only [dtt, gt_iff_lt] at h45;refine aq1 ?_
    first
    | (exfalso; omega)
    | (refine ⟨_, rfl, hK, congrArg AV.bool ?_⟩
       have hle := deepA_le ks (i + 1);have hmo := deepA_mono ks (show i + 1 ≤ ks.length by omega);have h12 : 12 < (deepA ks (i + 1)).1 := by
         rw [deepA]
         first
         | (rw [if_pos (by omega)]; exact h45)
         | (rw [if_neg (by omega), if_pos (by omega)]; exact h45)
         | (rw [if_neg (by omega), if_neg (by omega)]; exact h45)
       rw [nestN, decide_eq_false (by omega)]; rfl)
    | (refine ⟨_, rfl, hK, congrArg AV.bool ?_⟩
       rw [nestN, decide_eq_true hd2, Bool.true_and])
   simp only [dff, gt_iff_lt] at h45;refine aq1 ?_;refine wad ?_;refine aq1 ?_
   first
   | (exfalso; omega)
   | (have hbn : (deepA ks (i + 1)).2 ≤ 12 := by
        rw [deepA]
        first
        | (rw [if_pos (by omega)]; simp only; split <;> omega)
        | (rw [if_neg (by omega), if_pos (by omega)]; simp only; omega)
        | (rw [if_neg (by omega), if_neg (by omega)]; omega)
      have hle := deepA_le ks (i + 1)
      first
      | exact rn ⟨i + 1, rfl, by omega, by rw [deepA, if_pos (by omega)], hK, by omega, hbn⟩
      | exact rn ⟨i + 1, rfl, by omega, by rw [deepA, if_neg (by omega), if_pos (by omega)], hK, by omega, hbn⟩
      | exact rn ⟨i + 1, rfl, by omega, by rw [deepA, if_neg (by omega), if_neg (by omega)], hK, by omega, hbn⟩)
  simp only [bff, ne_eq] at h26;refine aq2 ?_;refine wvz (oI (RowP.up hv _)) ?_;refine wvz (oF (Row.pt (RowP.up hv z.h) hcy)) ?_;refine wvz (v := .int .i64 k) (oM (Pt.fld (Row.pt (RowP.up hv z.h) hcy) _ (nl rfl))) ?_;refine aq2 ?_;refine wcb (fun h33 => ?_) (fun h33 => ?_)
  ·refine aq1 ?_;refine wad ?_;refine aq3 ?_;refine wvz (oI (RowP.up hv _)) ?_;refine wvz (oF (Row.pt (RowP.up hv z.h) hcy)) ?_;refine wvz (v := .int .i64 k) (oM (Pt.fld (Row.pt (RowP.up hv z.h) hcy) _ (nl rfl))) ?_;refine aq1 ?_;refine wcb (fun h41 => ?_) (fun h41 => ?_)
   ·refine aq1 ?_;refine wvz (op_sub rfl rfl (by unfold In64; omega)) ?_;refine aq3 ?_;refine wc_condT rfl (fun h45 => ?_) (fun h45 => ?_)
    ·simp only [dtt, gt_iff_lt] at h45;refine aq1 ?_
     first
     | (exfalso; omega)
     | (refine ⟨_, rfl, hK, congrArg AV.bool ?_⟩
        have hle := deepA_le ks (i + 1);have hmo := deepA_mono ks (show i + 1 ≤ ks.length by omega);have h12 : 12 < (deepA ks (i + 1)).1 := by
          rw [deepA]
          first
          | (rw [if_pos (by omega)]; exact h45)
          | (rw [if_neg (by omega), if_pos (by omega)]; exact h45)
          | (rw [if_neg (by omega), if_neg (by omega)]; exact h45)
        rw [nestN, decide_eq_false (by omega)]; rfl)
     | (refine ⟨_, rfl, hK, congrArg AV.bool ?_⟩
        rw [nestN, decide_eq_true hd2, Bool.true_and])
    simp only [dff, gt_iff_lt] at h45;refine aq1 ?_;refine wad ?_;refine aq1 ?_
    first
    | (exfalso; omega)
    | (have hbn : (deepA ks (i + 1)).2 ≤ 12 := by
         rw [deepA]
         first
         | (rw [if_pos (by omega)]; simp only; split <;> omega)
         | (rw [if_neg (by omega), if_pos (by omega)]; simp only; omega)
         | (rw [if_neg (by omega), if_neg (by omega)]; omega)
       have hle := deepA_le ks (i + 1)
       first
       | exact rn ⟨i + 1, rfl, by omega, by rw [deepA, if_pos (by omega)], hK, by omega, hbn⟩
       | exact rn ⟨i + 1, rfl, by omega, by rw [deepA, if_neg (by omega), if_pos (by omega)], hK, by omega, hbn⟩
       | exact rn ⟨i + 1, rfl, by omega, by rw [deepA, if_neg (by omega), if_neg (by omega)], hK, by omega, hbn⟩)
   refine aq2 ?_;refine wc_condT rfl (fun h45 => ?_) (fun h45 => ?_)
   ·simp only [dtt, gt_iff_lt] at h45;refine aq1 ?_
    first
    | (exfalso; omega)
    | (refine ⟨_, rfl, hK, congrArg AV.bool ?_⟩
       have hle := deepA_le ks (i + 1);have hmo := deepA_mono ks (show i + 1 ≤ ks.length by omega);have h12 : 12 < (deepA ks (i + 1)).1 := by
         rw [deepA]
         first
         | (rw [if_pos (by omega)]; exact h45)
         | (rw [if_neg (by omega), if_pos (by omega)]; exact h45)
         | (rw [if_neg (by omega), if_neg (by omega)]; exact h45)
       rw [nestN, decide_eq_false (by omega)]; rfl)
    | (refine ⟨_, rfl, hK, congrArg AV.bool ?_⟩
       rw [nestN, decide_eq_true hd2, Bool.true_and])
   simp only [dff, gt_iff_lt] at h45;refine aq1 ?_;refine wad ?_;refine aq1 ?_
   first
   | (exfalso; omega)
   | (have hbn : (deepA ks (i + 1)).2 ≤ 12 := by
        rw [deepA]
        first
        | (rw [if_pos (by omega)]; simp only; split <;> omega)
        | (rw [if_neg (by omega), if_pos (by omega)]; simp only; omega)
        | (rw [if_neg (by omega), if_neg (by omega)]; omega)
      have hle := deepA_le ks (i + 1)
      first
      | exact rn ⟨i + 1, rfl, by omega, by rw [deepA, if_pos (by omega)], hK, by omega, hbn⟩
      | exact rn ⟨i + 1, rfl, by omega, by rw [deepA, if_neg (by omega), if_pos (by omega)], hK, by omega, hbn⟩
      | exact rn ⟨i + 1, rfl, by omega, by rw [deepA, if_neg (by omega), if_neg (by omega)], hK, by omega, hbn⟩)
  refine aq2 ?_;refine wvz (oI (RowP.up hv _)) ?_;refine wvz (oF (Row.pt (RowP.up hv z.h) hcy)) ?_;refine wvz (v := .int .i64 k) (oM (Pt.fld (Row.pt (RowP.up hv z.h) hcy) _ (nl rfl))) ?_;refine aq1 ?_;refine wcb (fun h41 => ?_) (fun h41 => ?_)
  ·refine aq1 ?_;refine wvz (op_sub rfl rfl (by unfold In64; omega)) ?_;refine aq3 ?_;refine wc_condT rfl (fun h45 => ?_) (fun h45 => ?_)
   ·simp only [dtt, gt_iff_lt] at h45;refine aq1 ?_
    first
    | (exfalso; omega)
    | (refine ⟨_, rfl, hK, congrArg AV.bool ?_⟩
       have hle := deepA_le ks (i + 1);have hmo := deepA_mono ks (show i + 1 ≤ ks.length by omega);have h12 : 12 < (deepA ks (i + 1)).1 := by
         rw [deepA]
         first
         | (rw [if_pos (by omega)]; exact h45)
         | (rw [if_neg (by omega), if_pos (by omega)]; exact h45)
         | (rw [if_neg (by omega), if_neg (by omega)]; exact h45)
       rw [nestN, decide_eq_false (by omega)]; rfl)
    | (refine ⟨_, rfl, hK, congrArg AV.bool ?_⟩
       rw [nestN, decide_eq_true hd2, Bool.true_and])
   simp only [dff, gt_iff_lt] at h45;refine aq1 ?_;refine wad ?_;refine aq1 ?_
   first
   | (exfalso; omega)
   | (have hbn : (deepA ks (i + 1)).2 ≤ 12 := by
        rw [deepA]
        first
        | (rw [if_pos (by omega)]; simp only; split <;> omega)
        | (rw [if_neg (by omega), if_pos (by omega)]; simp only; omega)
        | (rw [if_neg (by omega), if_neg (by omega)]; omega)
      have hle := deepA_le ks (i + 1)
      first
      | exact rn ⟨i + 1, rfl, by omega, by rw [deepA, if_pos (by omega)], hK, by omega, hbn⟩
      | exact rn ⟨i + 1, rfl, by omega, by rw [deepA, if_neg (by omega), if_pos (by omega)], hK, by omega, hbn⟩
      | exact rn ⟨i + 1, rfl, by omega, by rw [deepA, if_neg (by omega), if_neg (by omega)], hK, by omega, hbn⟩)
  refine aq2 ?_;refine wc_condT rfl (fun h45 => ?_) (fun h45 => ?_)
  ·simp only [dtt, gt_iff_lt] at h45;refine aq1 ?_
   first
   | (exfalso; omega)
   | (refine ⟨_, rfl, hK, congrArg AV.bool ?_⟩
      have hle := deepA_le ks (i + 1);have hmo := deepA_mono ks (show i + 1 ≤ ks.length by omega);have h12 : 12 < (deepA ks (i + 1)).1 := by
        rw [deepA]
        first
        | (rw [if_pos (by omega)]; exact h45)
        | (rw [if_neg (by omega), if_pos (by omega)]; exact h45)
        | (rw [if_neg (by omega), if_neg (by omega)]; exact h45)
      rw [nestN, decide_eq_false (by omega)]; rfl)
   | (refine ⟨_, rfl, hK, congrArg AV.bool ?_⟩
      rw [nestN, decide_eq_true hd2, Bool.true_and])
  simp only [dff, gt_iff_lt] at h45;refine aq1 ?_;refine wad ?_;refine aq1 ?_
  first
  | (exfalso; omega)
  | (have hbn : (deepA ks (i + 1)).2 ≤ 12 := by
       rw [deepA]
       first
       | (rw [if_pos (by omega)]; simp only; split <;> omega)
       | (rw [if_neg (by omega), if_pos (by omega)]; simp only; omega)
       | (rw [if_neg (by omega), if_neg (by omega)]; omega)
     have hle := deepA_le ks (i + 1)
     first
     | exact rn ⟨i + 1, rfl, by omega, by rw [deepA, if_pos (by omega)], hK, by omega, hbn⟩
     | exact rn ⟨i + 1, rfl, by omega, by rw [deepA, if_neg (by omega), if_pos (by omega)], hK, by omega, hbn⟩
     | exact rn ⟨i + 1, rfl, by omega, by rw [deepA, if_neg (by omega), if_neg (by omega)], hK, by omega, hbn⟩)
 obtain rfl : i = ks.length := by omega
 refine aq2 ?_
 first
 | (exfalso; omega)
 | (refine ⟨_, rfl, hK, congrArg AV.bool ?_⟩
    have hle := deepA_le ks (i + 1);have hmo := deepA_mono ks (show i + 1 ≤ ks.length by omega);have h12 : 12 < (deepA ks (i + 1)).1 := by
      rw [deepA]
      first
      | (rw [if_pos (by omega)]; exact h45)
      | (rw [if_neg (by omega), if_pos (by omega)]; exact h45)
      | (rw [if_neg (by omega), if_neg (by omega)]; exact h45)
    rw [nestN, decide_eq_false (by omega)]; rfl)
 | (refine ⟨_, rfl, hK, congrArg AV.bool ?_⟩
    rw [nestN, decide_eq_true hd2, Bool.true_and])
end Go.Ab
namespace Go.Ab
open Go.Proofs
abbrev Off (l : List (Bool × Flt)) : Prop := ∀ p ∈ l, p.1 = false
theorem Off.app {l r : List (Bool × Flt)} (h : Off l) (k : Off r) : Off (l ++ r) := fun p hp => (List.mem_append.1 hp).elim (h p) (k p)
theorem Off.nil : Off [] := fun _ h => by cases h
theorem Off.cons {b : Bool} {f : Flt} {l : List (Bool × Flt)} (h : b = false) (k : Off l) : Off ((b, f) :: l) := fun p hp => (List.mem_cons.1 hp).elim (fun e => by rw [e]; exact h) (k p)
theorem flat_hit {g : Nat → List (Bool × Flt)} {pre post A B : List (Bool × Flt)} {i n : Nat} {b : Bool} {f : Flt} (hi : i < n) (h0 : Off pre) (h1 : Off ((List.range i).flatMap g)) (hg : g i = A ++ (b, f) :: B) (hA : Off A) (hb : b = true) : firstF (pre ++ (List.range n).flatMap g ++ post) = f := by
 subst hb;obtain ⟨r, hr⟩ := range_split g (show i + 1 ≤ n from hi);rw [hr, range_flat, hg];have e : pre ++ ((List.range i).flatMap g ++ (A ++ (true, f) :: B) ++ r) ++ post = (pre ++ (List.range i).flatMap g ++ A) ++ (true, f) :: (B ++ r ++ post) := by simp [aas]
 rw [e];exact firstF_on ((h0.app h1).app hA)
theorem flat_off {g : Nat → List (Bool × Flt)} {i : Nat} (h1 : Off ((List.range i).flatMap g)) (h2 : Off (g i)) : Off ((List.range (i + 1)).flatMap g) := by
 rw [range_flat]; exact h1.app h2
theorem dup_t {ns : List ByteArray} {nm : ByteArray} {j : Nat} (hj : j < ns.length) (h : eqS (ns.getD j ByteArray.empty) nm = true) : decide (0 ≤ fiI ns nm) = true := by
 rw [dtt];unfold fiI idxQ;cases hf : (List.range ns.length).find? fun i => eqS (ns.getD i ByteArray.empty) nm with
 | some k => simp only; omega
 | none =>
  rw [List.find?_eq_none] at hf;exact absurd h (hf j (by simpa using hj))
theorem dup_f {ns : List ByteArray} {nm : ByteArray} (h : ∀ j, j < ns.length → eqS (ns.getD j ByteArray.empty) nm = false) : decide (0 ≤ fiI ns nm) = false := by
 rw [fiI_none h]; rfl
theorem getD_take {ns : List ByteArray} {i j : Nat} (h : j < i) : (ns.take i).getD j ByteArray.empty = ns.getD j ByteArray.empty := by
 rw [gdd, gdd, List.getElem?_take_of_lt h]
theorem esN_fine {x : SrcL} (h : x.fine) {j : Nat} {e : DE} (he : (esN x)[j]? = some e) : e.name.size ≤ maxBytes ∧ U64 e.label := by
 have hm := mog he;obtain ⟨h1, h2, h3, h4, h5⟩ := h;simp only [esN, List.mem_append, List.mem_mapIdx] at hm;rcases hm with ⟨i, hi, rfl⟩ | ⟨i, hi, rfl⟩ | ⟨i, hi, rfl⟩ | ⟨i, hi, rfl⟩
 ·exact h2 _ (List.getElem_mem hi)
 ·exact h3 _ (List.getElem_mem hi)
 ·exact h4 _ (List.getElem_mem hi)
 ·exact ⟨(h5 _ (List.getElem_mem hi)).1, by constructor <;> simp⟩
def pN (s : SrcL) (i : Nat) : ByteArray := s.principals.getD i ByteArray.empty
def eN (s : SrcL) (j : Nat) : ByteArray := ((esN s).map DE.name).getD j ByteArray.empty
section
variable {s : SrcL} {i : Nat} {p : ByteArray} {e : DE}
theorem prT_at (h : s.principals[i]? = some p) : prT s i = [(decide ((i : Int) ≥ 64), ⟨74, -1, i⟩), (!nameOk p, ⟨1, -1, i⟩), (decide (0 ≤ fiI (s.principals.take i) p), ⟨70, -1, i⟩)] := by unfold prT; rw [h]
theorem deT_at (h : (esN s)[i]? = some e) : deT s i = [(decide ((e.i : Int) ≥ e.most), ⟨74, -1, (s.principals.length + i : Nat)⟩), (!nameOk e.name, ⟨1, -1, (s.principals.length + i : Nat)⟩), (decide (0 ≤ fiI (((esN s).take i).map DE.name) e.name), ⟨70, -1, (s.principals.length + i : Nat)⟩),
    (decide (e.long < 1) || decide (e.long > 256), ⟨1, -1, (s.principals.length + i : Nat)⟩), (forN s.principals.length e.label, ⟨10, -1, (s.principals.length + i : Nat)⟩)] := by unfold deT; rw [h]
theorem pr_hit {A B : List (Bool × Flt)} {b : Bool} {f : Flt} (hi : i < s.principals.length) (h1 : Off (declP s i)) (hg : prT s i = A ++ (b, f) :: B) (hA : Off A) (hb : b = true) : firstF (declL s) = f :=
 flat_hit (pre := []) (post := declE s (esN s).length) hi Off.nil h1 hg hA hb
theorem de_hit {A B : List (Bool × Flt)} {b : Bool} {f : Flt} (hi : i < (esN s).length) (h0 : Off (declP s s.principals.length)) (h1 : Off (declE s i)) (hg : deT s i = A ++ (b, f) :: B) (hA : Off A) (hb : b = true) : firstF (declL s) = f := by
 have := flat_hit (pre := declP s s.principals.length) (post := []) hi h0 h1 hg hA hb
 rwa [List.append_nil] at this
theorem eN_at (h : (esN s)[i]? = some e) : eN s i = e.name := by
 rw [eN, gdd, gmm, h]; rfl
theorem pN_at (h : s.principals[i]? = some p) : pN s i = p := by
 rw [pN, gdd, h]; rfl
theorem pr_dup {j : Nat} (hj : j < i) (hi : i ≤ s.principals.length) (h : eqS (pN s j) p = true) : decide (0 ≤ fiI (s.principals.take i) p) = true :=
 dup_t (j := j) (by rw [List.length_take]; omega) (by rw [getD_take hj]; exact h)
theorem pr_nodup (h : ∀ j, j < i → eqS (pN s j) p = false) : decide (0 ≤ fiI (s.principals.take i) p) = false :=
 dup_f fun j hj => by
  have hj' : j < i := by rw [List.length_take] at hj; omega
  rw [getD_take hj']; exact h j hj'
theorem de_dup {j : Nat} {p : ByteArray} (hj : j < i) (hi : i ≤ (esN s).length) (h : eqS (eN s j) p = true) : decide (0 ≤ fiI (((esN s).take i).map DE.name) p) = true := by
 rw [List.map_take];exact dup_t (j := j) (by rw [List.length_take, lmm]; omega) (by rw [getD_take hj]; exact h)
theorem de_nodup {p : ByteArray} (h : ∀ j, j < i → eqS (eN s j) p = false) : decide (0 ≤ fiI (((esN s).take i).map DE.name) p) = false := by
 rw [List.map_take];exact dup_f fun j hj => by
  have hj' : j < i := by rw [List.length_take] at hj; omega
  rw [getD_take hj']; exact h j hj'
end
theorem declarations_ref_ok {s : St} {c : List AV} {x : SrcL} (hok : s.Ok) (hx : x.small) (hfi : x.fine) (hv : SrcP x c) :
  CallS Try.prog Tt Kt 67 [.agg c] s fun r s' => Keep [] s s' ∧ r = .agg (fltC (firstF (declL x))) := by
 have hz := hv.leaf;obtain ⟨vp, vg, va, vc, vf, rfl, hvp, hvg, hva, hvc, csf, hrf, hlf, hF⟩ := id hv;obtain ⟨hl1, hl2, hl3, hl4, hl5, hsm⟩ := id hx;have hsf : vf.slen = some x.funcs.length := by rw [hrf.slen, hlf]
 have hel := esN_len x;refine cof 120 Try.func67 ?_;refine aq0 ?_;have hS := SH.start hok;refine aq0 ?_;refine ws_box hS rfl rfl rfl hz ?_;rintro p0 z hS hk;have hS : SH _ [_] z _ := hS;refine ws_alloc hS rfl rfl rfl rfl ?_;rintro p1 z hS hk;have hS : SH _ [_, _] z _ := hS;have hK := hS.K;refine aq0 ?_;have hS : SH s [ptC (.ptr p0 0 0) [vp, vg, va, vc, vf], ptC (.ptr p1 0 0) [.int .i64 0, .int .i64 0, .int .i64 0]] z := hS;refine aq1 ?_;refine wc_loop_at (fun jj m z => ∃ i : Nat, jj = x.principals.length - i ∧ i ≤ x.principals.length ∧ m = [(1, .ptr p0 0 0), (2, .ptr p1 0 0), (3, .int .i64 (i : Nat))] ∧ SH s [ptC (.ptr p0 0 0) [vp, vg, va, vc, vf], ptC (.ptr p1 0 0) [.int .i64 0, .int .i64 0, .int .i64 0]] z ∧ Off (declP x i)) x.principals.length
  [(1, .ptr p0 0 0), (2, .ptr p1 0 0), (3, .int .i64 ((0 : Nat) : Int))] (scn rfl (scn rfl (scn rfl (Sub.nil _)))) ⟨0, by simp, by simp, rfl, hS, Off.nil⟩ ?_
 clear hS hK;rintro jj m z ⟨i, rfl, hi, rfl, hS, hO⟩;have hK := hS.K;refine aq2 ?_;refine wvz (v := vp) (oL 0 hS) ?_;refine wvz (op_len rfl rfl rfl rfl rfl (RowP.slen hvp |>.trans (by rw [lmm]))) ?_;refine aq1 ?_;refine wcd (fun h13 => ?_) (fun h13 => ?_)
 ·refine aq0 ?_;obtain ⟨p, hp⟩ : ∃ p, x.principals[i]? = some p := ⟨_, gee (by omega)⟩;have hpt := prT_at hp;refine aq2 ?_;refine wc_condT rfl (fun h17 => ?_) (fun h17 => ?_)
  ·refine aq1 ?_;refine wkz (at_ok hS.ok) ?_;rintro _ z ⟨hk, rfl⟩;have hS := hS.mov hk;refine ws_store 1 hS rfl rfl rfl rfl rfl rfl (by rfl) (nl rfl) ?_;rintro z hS;have hS : SH _ [_, _] z _ := hS;have hK := hS.K;refine aq0 ?_;exact ⟨_, res_cell rfl rfl (hS.pt 1 rfl) rfl, hK, by rw [pr_hit (by omega) hO (A := []) hpt Off.nil h17]; rfl⟩
  refine aq1 ?_;refine wvz (v := vp) (oL 0 hS) ?_;refine aq1 ?_;refine wvz (oJ (RowP.up hvp _)) ?_;refine wvz (v := .str p) (oM (Row.mk_pt (RowP.up hvp z.h) hp)) ?_;refine wkz (name_ref_ok hS.ok (hfi.1 p (mog hp))) ?_;rintro _ z ⟨hk, rfl⟩;have hS := hS.mov hk;have hK := hS.K;refine aq1 ?_;refine wc_condT rfl (fun h26 => ?_) (fun h26 => ?_)
  ·refine aq1 ?_;refine wkz (at_ok hS.ok) ?_;rintro _ z ⟨hk, rfl⟩;have hS := hS.mov hk;refine ws_store 1 hS rfl rfl rfl rfl rfl rfl (by rfl) (nl rfl) ?_;rintro z hS;have hS : SH _ [_, _] z _ := hS;have hK := hS.K;refine aq0 ?_;exact ⟨_, res_cell rfl rfl (hS.pt 1 rfl) rfl, hK, by rw [pr_hit (by omega) hO (A := [_]) hpt (Off.cons h17 Off.nil) h26]; rfl⟩
  refine aq1 ?_;refine wc_loop_at (fun jj m z => ∃ j : Nat, jj = i - j ∧ j ≤ i ∧ m = [(1, .ptr p0 0 0), (2, .ptr p1 0 0), (3, .int .i64 (i : Nat)), (4, .int .i64 (j : Nat))] ∧ SH s [ptC (.ptr p0 0 0) [vp, vg, va, vc, vf], ptC (.ptr p1 0 0) [.int .i64 0, .int .i64 0, .int .i64 0]] z ∧ ∀ j', j' < j → eqS (pN x j') p = false) i
   [(1, .ptr p0 0 0), (2, .ptr p1 0 0), (3, .int .i64 (i : Nat)), (4, .int .i64 ((0 : Nat) : Int))] (scn rfl (scn rfl (scn rfl (scn rfl (Sub.nil _))))) ⟨0, by simp, by simp, rfl, hS, fun j h => by omega⟩ ?_
  clear hS hK;rintro jj m z ⟨j, rfl, hj, rfl, hS, hQ⟩;have hK := hS.K;refine aq3 ?_;refine wcd (fun h31 => ?_) (fun h31 => ?_)
  ·refine aq0 ?_;obtain ⟨q, hq⟩ : ∃ p, x.principals[j]? = some p := ⟨_, gee (by omega)⟩;have hqn := pN_at hq;refine wc_draw (fun _ => True) (by kernel_rfl) rfl ?_;refine wdv (op_fldP rfl rfl rfl rfl (by decide)) ?_;refine wdv (v := vp) (oM (Pt.bare ((hS.pt 0 rfl).at (nl rfl)))) ?_;refine aq1 ?_;refine wdv (oJ (RowP.up hvp _)) ?_;refine wdv (v := .str q) (oM (Row.mk_pt (RowP.up hvp _) hq)) ?_;refine wdv (op_fldP rfl rfl rfl rfl (by decide)) ?_;refine wdv (v := vp) (oM (Pt.bare ((hS.pt 0 rfl).at (nl rfl)))) ?_;refine aq1 ?_;refine wdv (oJ (RowP.up hvp _)) ?_;refine wdv (v := .str p) (oM (Row.mk_pt (RowP.up hvp _) hp)) ?_;refine aq1 ?_;refine wc_condT rfl (fun h44 => ?_) (fun h44 => ?_)
   ·refine aq1 ?_;refine wkz (at_ok hS.ok) ?_;rintro _ z ⟨hk, rfl⟩;have hS := hS.mov hk;refine ws_store 1 hS rfl rfl rfl rfl rfl rfl (by rfl) (nl rfl) ?_;rintro z hS;have hS : SH _ [_, _] z _ := hS;have hK := hS.K;refine aq0 ?_;exact ⟨_, res_cell rfl rfl (hS.pt 1 rfl) rfl, hK, by rw [pr_hit (by omega) hO (A := [_, _]) hpt (Off.cons h17 (Off.cons h26 Off.nil)) (pr_dup (j := j) (by omega) (by omega) (by rw [hqn]; exact h44))]; rfl⟩
   refine aq1 ?_;refine wad ?_;refine aq1 ?_;exact rn ⟨j + 1, rfl, by omega, rfl, hS, fun j1 h1 => (lsl.1 h1).elim (hQ j1) fun e => by rw [e, hqn]; exact h44⟩
  obtain rfl : i = j := by omega
  refine aq1 ?_;refine wad ?_;refine aq1 ?_;exact rn ⟨i + 1, rfl, by omega, rfl, hS, flat_off hO (by rw [hpt]; exact Off.cons h17 (Off.cons h26 (Off.cons (pr_nodup hQ) Off.nil)))⟩
 obtain rfl : i = x.principals.length := by omega
 refine aq0 ?_;refine wvz (v := .agg [vp, vg, va, vc, vf]) (oL 0 hS) ?_;refine wkz (decls_ok hS.ok hx hv) ?_;rintro v5 z ⟨hk, h5⟩;have hS := hS.mov hk;have hK := hS.K;refine aq2 ?_;refine wc_loop_at (fun jj m z => ∃ j : Nat, jj = (esN x).length - j ∧ j ≤ (esN x).length ∧ m = [(1, .ptr p0 0 0), (2, .ptr p1 0 0), (5, v5), (6, .int .i64 (j : Nat))] ∧ SH s [ptC (.ptr p0 0 0) [vp, vg, va, vc, vf], ptC (.ptr p1 0 0) [.int .i64 0, .int .i64 0, .int .i64 0]] z ∧ Off (declE x j)) (esN x).length
  [(1, .ptr p0 0 0), (2, .ptr p1 0 0), (5, v5), (6, .int .i64 ((0 : Nat) : Int))] (scn rfl (scn rfl (scn rfl (scn rfl (Sub.nil _))))) ⟨0, by simp, by simp, rfl, hS, Off.nil⟩ ?_
 clear hS hK;rintro jj m z ⟨j, rfl, hj, rfl, hS, hE⟩;have hK := hS.K;refine aq2 ?_;refine wvz (op_len rfl rfl rfl rfl rfl (RowP.slen h5 |>.trans (by rw [lmm]))) ?_;refine aq1 ?_;refine wcd (fun h52 => ?_) (fun h52 => ?_)
 ·refine aq0 ?_;obtain ⟨e, he⟩ : ∃ e, (esN x)[j]? = some e := ⟨_, gee (by omega)⟩;have hdt := deT_at he;obtain ⟨hef1, hef2⟩ := esN_fine hfi he;refine aq1 ?_;refine wvz (v := vp) (oL 0 hS) ?_;refine wvz (op_len rfl rfl rfl rfl rfl (RowP.slen hvp |>.trans (by rw [lmm]))) ?_;refine aq1 ?_;refine wad ?_;refine aq1 ?_;rw [show ((x.principals.length : Nat) : Int) + ((j : Nat) : Int) = ((x.principals.length + j : Nat) : Int) from rfl];refine aq2 ?_;refine wvz (oJ (RowP.up h5 _)) ?_;refine wvz (oF (Row.mk_pt (RowP.up h5 z.h) he)) ?_;refine wvz (v := .bool (decide ((e.i : Int) ≥ e.most))) (oM (Pt.fld (Row.mk_pt (RowP.up h5 z.h) he) _ (nl rfl))) ?_;refine aq0 ?_;refine wc_condT rfl (fun h64 => ?_) (fun h64 => ?_)
  ·refine aq1 ?_;refine wkz (at_ok hS.ok) ?_;rintro _ z ⟨hk, rfl⟩;have hS := hS.mov hk;refine ws_store 1 hS rfl rfl rfl rfl rfl rfl (by rfl) (nl rfl) ?_;rintro z hS;have hS : SH _ [_, _] z _ := hS;have hK := hS.K;refine aq0 ?_;exact ⟨_, res_cell rfl rfl (hS.pt 1 rfl) rfl, hK, by rw [de_hit (by omega) hO hE (A := []) hdt Off.nil h64]; rfl⟩
  refine aq2 ?_;refine wvz (oJ (RowP.up h5 _)) ?_;refine wvz (oF (Row.mk_pt (RowP.up h5 z.h) he)) ?_;refine wvz (v := .str e.name) (oM (Pt.fld (Row.mk_pt (RowP.up h5 z.h) he) _ (nl rfl))) ?_;refine wkz (name_ref_ok hS.ok hef1) ?_;rintro _ z ⟨hk, rfl⟩;have hS := hS.mov hk;have hK := hS.K;refine aq1 ?_;refine wc_condT rfl (fun h73 => ?_) (fun h73 => ?_)
  ·refine aq1 ?_;refine wkz (at_ok hS.ok) ?_;rintro _ z ⟨hk, rfl⟩;have hS := hS.mov hk;refine ws_store 1 hS rfl rfl rfl rfl rfl rfl (by rfl) (nl rfl) ?_;rintro z hS;have hS : SH _ [_, _] z _ := hS;have hK := hS.K;refine aq0 ?_;exact ⟨_, res_cell rfl rfl (hS.pt 1 rfl) rfl, hK, by rw [de_hit (by omega) hO hE (A := [_]) hdt (Off.cons h64 Off.nil) h73]; rfl⟩
  refine aq1 ?_;refine wc_loop_at (fun jj m z => ∃ k : Nat, jj = j - k ∧ k ≤ j ∧ m = [(1, .ptr p0 0 0), (2, .ptr p1 0 0), (5, v5), (6, .int .i64 (j : Nat)), (7, .int .i64 ((x.principals.length + j : Nat) : Int)), (8, .int .i64 (k : Nat))] ∧ SH s [ptC (.ptr p0 0 0) [vp, vg, va, vc, vf], ptC (.ptr p1 0 0) [.int .i64 0, .int .i64 0, .int .i64 0]] z ∧ ∀ j', j' < k → eqS (eN x j') e.name = false) j
   [(1, .ptr p0 0 0), (2, .ptr p1 0 0), (5, v5), (6, .int .i64 (j : Nat)), (7, .int .i64 ((x.principals.length + j : Nat) : Int)), (8, .int .i64 ((0 : Nat) : Int))] (scn rfl (scn rfl (scn rfl (scn rfl (scn rfl (scn rfl (Sub.nil _))))))) ⟨0, by simp, by simp, rfl, hS, fun j h => by omega⟩ ?_
  clear hS hK;rintro jj m z ⟨k, rfl, hk', rfl, hS, hQ⟩;have hK := hS.K;refine aq3 ?_;refine wcd (fun h78 => ?_) (fun h78 => ?_)
  ·refine aq0 ?_;obtain ⟨e2, he2⟩ : ∃ e, (esN x)[k]? = some e := ⟨_, gee (by omega)⟩;have hqn := eN_at he2;refine wc_draw (fun _ => True) (by kernel_rfl) rfl ?_;refine aq2 ?_;refine wdv (oJ (RowP.up h5 _)) ?_;refine wdv (oF (Row.mk_pt (RowP.up h5 _) he2)) ?_;refine wdv (v := .str e2.name) (oM (Pt.fld (Row.mk_pt (RowP.up h5 _) he2) _ (nl rfl))) ?_;refine aq2 ?_;refine wdv (oJ (RowP.up h5 _)) ?_;refine wdv (oF (Row.mk_pt (RowP.up h5 _) he)) ?_;refine wdv (v := .str e.name) (oM (Pt.fld (Row.mk_pt (RowP.up h5 _) he) _ (nl rfl))) ?_;refine aq1 ?_;refine wc_condT rfl (fun h91 => ?_) (fun h91 => ?_)
   ·refine aq1 ?_;refine wkz (at_ok hS.ok) ?_;rintro _ z ⟨hk, rfl⟩;have hS := hS.mov hk;refine ws_store 1 hS rfl rfl rfl rfl rfl rfl (by rfl) (nl rfl) ?_;rintro z hS;have hS : SH _ [_, _] z _ := hS;have hK := hS.K;refine aq0 ?_;exact ⟨_, res_cell rfl rfl (hS.pt 1 rfl) rfl, hK, by rw [de_hit (by omega) hO hE (A := [_, _]) hdt (Off.cons h64 (Off.cons h73 Off.nil)) (de_dup (j := k) (by omega) (by omega) (by rw [hqn]; exact h91))]; rfl⟩
   refine aq1 ?_;refine wad ?_;refine aq1 ?_;exact rn ⟨k + 1, rfl, by omega, rfl, hS, fun j1 h1 => (lsl.1 h1).elim (hQ j1) fun e => by rw [e, hqn]; exact h91⟩
  obtain rfl : j = k := by omega
  refine aq2 ?_;refine wvz (oJ (RowP.up h5 _)) ?_;refine wvz (oF (Row.mk_pt (RowP.up h5 z.h) he)) ?_;refine wvz (v := .int .i64 e.long) (oM (Pt.fld (Row.mk_pt (RowP.up h5 z.h) he) _ (nl rfl))) ?_;refine aq2 ?_;refine w_split (i := 100) rfl (fun h100 => ?_) (fun h100 => ?_)
  ·refine aq7 ?_;refine wc_cond_t rfl ?_;refine aq1 ?_;refine wkz (at_ok hS.ok) ?_;rintro _ z ⟨hk, rfl⟩;have hS := hS.mov hk;refine ws_store 1 hS rfl rfl rfl rfl rfl rfl (by rfl) (nl rfl) ?_;rintro z hS;have hS : SH _ [_, _] z _ := hS;have hK := hS.K;refine aq0 ?_;exact ⟨_, res_cell rfl rfl (hS.pt 1 rfl) rfl, hK, by rw [de_hit (by omega) hO hE (A := [_, _, _]) hdt (Off.cons h64 (Off.cons h73 (Off.cons (de_nodup hQ) Off.nil))) (by rw [h100]; rfl)]; rfl⟩
  refine aq2 ?_;refine wvz (oJ (RowP.up h5 _)) ?_;refine wvz (oF (Row.mk_pt (RowP.up h5 z.h) he)) ?_;refine wvz (v := .int .i64 e.long) (oM (Pt.fld (Row.mk_pt (RowP.up h5 z.h) he) _ (nl rfl))) ?_;refine aq2 ?_;refine wc_condT rfl (fun h107 => ?_) (fun h107 => ?_)
  ·refine aq1 ?_;refine wkz (at_ok hS.ok) ?_;rintro _ z ⟨hk, rfl⟩;have hS := hS.mov hk;refine ws_store 1 hS rfl rfl rfl rfl rfl rfl (by rfl) (nl rfl) ?_;rintro z hS;have hS : SH _ [_, _] z _ := hS;have hK := hS.K;refine aq0 ?_;exact ⟨_, res_cell rfl rfl (hS.pt 1 rfl) rfl, hK, by rw [de_hit (by omega) hO hE (A := [_, _, _]) hdt (Off.cons h64 (Off.cons h73 (Off.cons (de_nodup hQ) Off.nil))) (by rw [h100, Bool.false_or]; exact h107)]; rfl⟩
  refine aq0 ?_;have hR := Keep.refl (s := z) (hK.ok);refine wc_draw (Old z []) (by kernel_rfl) rfl ?_;refine wol hR (v := .agg [vp, vg, va, vc, vf]) ((hS.pt 0 rfl).at (o := 0) (Nat.zero_le _)) (fun _ _ h => by cases h) ?_;refine aq2 ?_;refine wov (oJ (RowP.up h5 z.h)) ?_;refine wov (oF (Row.mk_pt (RowP.up h5 z.h) he)) ?_;refine wol hR (v := .int .u64 e.label) (Pt.fld (Row.mk_pt (RowP.up h5 z.h) he) _ (nl rfl)) (no_gs (fld_gs (RowP.egs h5 _))) ?_;refine woc hR (foreign_ref_ok hR.ok hx hv hef2) ?_;rintro _ sA ⟨-, rfl⟩ hR;refine aq0 ?_;have hS := hS.mov hR;generalize (⟨sA.ctr, z.h, sA.wr ++ z.wr⟩ : St) = z at hS ⊢;have hK := hS.K;refine aq0 ?_;refine wc_condT rfl (fun h116 => ?_) (fun h116 => ?_)
  ·refine aq1 ?_;refine wkz (at_ok hS.ok) ?_;rintro _ z ⟨hk, rfl⟩;have hS := hS.mov hk;refine ws_store 1 hS rfl rfl rfl rfl rfl rfl (by rfl) (nl rfl) ?_;rintro z hS;have hS : SH _ [_, _] z _ := hS;have hK := hS.K;refine aq0 ?_;have hlo : (decide (e.long < 1) || decide (e.long > 256)) = false := by rw [h100, Bool.false_or]; exact h107
   exact ⟨_, res_cell rfl rfl (hS.pt 1 rfl) rfl, hK, by rw [de_hit (by omega) hO hE (A := [_, _, _, _]) hdt (Off.cons h64 (Off.cons h73 (Off.cons (de_nodup hQ) (Off.cons hlo Off.nil)))) h116]; rfl⟩
  refine aq1 ?_;refine wad ?_;refine aq1 ?_;have hlo : (decide (e.long < 1) || decide (e.long > 256)) = false := by rw [h100, Bool.false_or]; exact h107
  exact rn ⟨j + 1, rfl, by omega, rfl, hS, flat_off hE (by rw [hdt]; exact (Off.cons h64 (Off.cons h73 (Off.cons (de_nodup hQ) (Off.cons hlo (Off.cons h116 Off.nil))))))⟩
 obtain rfl : j = (esN x).length := by omega
 refine aq0 ?_;refine wvz (v := .agg (fltC ⟨0, 0, 0⟩)) (op_pure rfl) ?_;refine ws_store 1 hS rfl rfl rfl rfl rfl rfl (by rfl) (nl rfl) ?_;rintro z hS;have hS : SH _ [_, _] z _ := hS;have hK := hS.K;refine aq0 ?_;exact ⟨_, res_cell rfl rfl (hS.pt 1 rfl) rfl, hK, by rw [declL, firstF_off' (hO.app hE)]; rfl⟩
end Go.Ab
