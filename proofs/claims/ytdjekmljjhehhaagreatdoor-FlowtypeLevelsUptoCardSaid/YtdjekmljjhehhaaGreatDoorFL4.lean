/- Parts of one proof, put together: P10 P11 P12 S3 P13 S4 P14 P15 H29 P16 P17 P18 P19 P20 P21 P22L P23L P24 P25 P26 P27 S2 S5 S6 P28 P29 P30 D7f P31 P32 P33. -/
import Derived.Test.YtdjekmljjhehhaaGreatDoorFL3
import Derived.Laws.Strings
namespace Go.Ab
open Go.Proofs
def kwB : List ByteArray := [⟨#[112, 114, 105, 110, 99, 105, 112, 97, 108]⟩, ⟨#[103, 108, 111, 98, 97, 108]⟩, ⟨#[97, 114, 114, 97, 121]⟩, ⟨#[99, 104, 97, 110, 110, 101, 108]⟩, ⟨#[102, 117, 110, 99]⟩, ⟨#[118, 97, 114]⟩, ⟨#[105, 102]⟩, ⟨#[101, 108, 115, 101]⟩, ⟨#[119, 104, 105, 108, 101]⟩, ⟨#[115, 101, 110, 100]⟩, ⟨#[114, 101, 116, 117, 114, 110]⟩]
def byB (b : ByteArray) (i : Nat) : Nat := (b.data.toList.getD i 0).toNat
theorem byB_get {b : ByteArray} {i : Nat} (h : i < b.size) : (b[i]'h).toNat = byB b i := by
 unfold byB
 rw [gdd, gee (by simpa using h)]
 rfl
theorem byB_lt (b : ByteArray) (i : Nat) : byB b i < 256 := by unfold byB; exact UInt8.toNat_lt _
def nameCh (i : Nat) (c : Nat) : Bool := decide ((97 ≤ c ∧ c ≤ 122) ∨ c = 95 ∨ (0 < i ∧ 48 ≤ c ∧ c ≤ 57))
def NotKw (b : ByteArray) (l : List ByteArray) : Prop := l.any (fun k => eqS b k) = false
def nameOk (b : ByteArray) : Bool := !(kwB.any fun k => eqS b k) && ((List.range b.size).all fun i => nameCh i (byB b i)) && decide (1 ≤ b.size ∧ b.size ≤ 32)
theorem NotKw.snoc {b k : ByteArray} {l : List ByteArray} (h : NotKw b l) (hk : (b == k) = false) : NotKw b (l ++ [k]) := by
 unfold NotKw at h ⊢
 rw [List.any_append, h]
 simp only [List.any_cons, List.any_nil, eqS, hk]; rfl
theorem nameOk_kw {b k : ByteArray} (hm : k ∈ kwB) (h : (b == k) = true) : nameOk b = false := by
 have : kwB.any (fun k => eqS b k) = true := List.any_eq_true.2 ⟨k, hm, h⟩
 rw [nameOk, this]; rfl
theorem nameOk_ch {b : ByteArray} {i : Nat} (hi : i < b.size) (h : nameCh i (byB b i) = false) : nameOk b = false := by
 have : ((List.range b.size).all fun i => nameCh i (byB b i)) = false := by
  rw [List.all_eq_false]
  exact ⟨i, by simpa using hi, by rw [h]; simp⟩
 rw [nameOk, this]; simp
theorem nameOk_fin {b : ByteArray} (hk : NotKw b kwB) (h : ∀ i, i < b.size → nameCh i (byB b i) = true) : nameOk b = decide (1 ≤ b.size ∧ b.size ≤ 32) := by
 have : ((List.range b.size).all fun i => nameCh i (byB b i)) = true := by
  rw [aet]
  exact fun i hi => h i (by simpa using hi)
 have hk : kwB.any (fun k => eqS b k) = false := hk
 rw [nameOk, this, hk]; simp
set_option maxRecDepth 10000 in
set_option maxHeartbeats 8000000 in
theorem name_ok {s : St} {b : ByteArray} (hok : s.Ok) (hb : b.size ≤ maxBytes) :
  CallS Tryz.prog Tt Kt 62 [.str b] s fun r s' => Keep [] s s' ∧ r = .bool (nameOk b) := by
 refine call_of (fn := Tryz.f62) (nt := 58) Tryz.func62 rfl rfl rfl ?_
 refine aq0 ?_
 have hS := SH.start hok
 have hK := hS.K
 have hkw : NotKw b [] := rfl
 have hbm : b.size ≤ 140737488355328 := hb
 refine aq4 ?_
 refine wc_condT rfl (fun h6 => ?_) (fun h6 => ?_)
 ·refine aq0 ?_
  refine wc_cond_t rfl ?_
  refine aq1 ?_
  exact ⟨_, rfl, hK, by rw [nameOk_kw (by simp [kwB]) h6]; rfl⟩
 have hkw := hkw.snoc h6
 refine aq2 ?_
 refine wc_condT rfl (fun h6 => ?_) (fun h6 => ?_)
 ·refine aq0 ?_
  refine wc_cond_t rfl ?_
  refine aq1 ?_
  exact ⟨_, rfl, hK, by rw [nameOk_kw (by simp [kwB]) h6]; rfl⟩
 have hkw := hkw.snoc h6
 refine aq2 ?_
 refine wc_condT rfl (fun h6 => ?_) (fun h6 => ?_)
 ·refine aq0 ?_
  refine wc_cond_t rfl ?_
  refine aq1 ?_
  exact ⟨_, rfl, hK, by rw [nameOk_kw (by simp [kwB]) h6]; rfl⟩
 have hkw := hkw.snoc h6
 refine aq2 ?_
 refine wc_condT rfl (fun h6 => ?_) (fun h6 => ?_)
 ·refine aq0 ?_
  refine wc_cond_t rfl ?_
  refine aq1 ?_
  exact ⟨_, rfl, hK, by rw [nameOk_kw (by simp [kwB]) h6]; rfl⟩
 have hkw := hkw.snoc h6
 refine aq2 ?_
 refine wc_condT rfl (fun h6 => ?_) (fun h6 => ?_)
 ·refine aq0 ?_
  refine wc_cond_t rfl ?_
  refine aq1 ?_
  exact ⟨_, rfl, hK, by rw [nameOk_kw (by simp [kwB]) h6]; rfl⟩
 have hkw := hkw.snoc h6
 refine aq2 ?_
 refine wc_condT rfl (fun h6 => ?_) (fun h6 => ?_)
 ·refine aq0 ?_
  refine wc_cond_t rfl ?_
  refine aq1 ?_
  exact ⟨_, rfl, hK, by rw [nameOk_kw (by simp [kwB]) h6]; rfl⟩
 have hkw := hkw.snoc h6
 refine aq2 ?_
 refine wc_condT rfl (fun h6 => ?_) (fun h6 => ?_)
 ·refine aq0 ?_
  refine wc_cond_t rfl ?_
  refine aq1 ?_
  exact ⟨_, rfl, hK, by rw [nameOk_kw (by simp [kwB]) h6]; rfl⟩
 have hkw := hkw.snoc h6
 refine aq2 ?_
 refine wc_condT rfl (fun h6 => ?_) (fun h6 => ?_)
 ·refine aq0 ?_
  refine wc_cond_t rfl ?_
  refine aq1 ?_
  exact ⟨_, rfl, hK, by rw [nameOk_kw (by simp [kwB]) h6]; rfl⟩
 have hkw := hkw.snoc h6
 refine aq2 ?_
 refine wc_condT rfl (fun h6 => ?_) (fun h6 => ?_)
 ·refine aq0 ?_
  refine wc_cond_t rfl ?_
  refine aq1 ?_
  exact ⟨_, rfl, hK, by rw [nameOk_kw (by simp [kwB]) h6]; rfl⟩
 have hkw := hkw.snoc h6
 refine aq2 ?_
 refine wc_condT rfl (fun h6 => ?_) (fun h6 => ?_)
 ·refine aq0 ?_
  refine wc_cond_t rfl ?_
  refine aq1 ?_
  exact ⟨_, rfl, hK, by rw [nameOk_kw (by simp [kwB]) h6]; rfl⟩
 have hkw := hkw.snoc h6
 refine aq2 ?_
 refine wc_condT rfl (fun h6 => ?_) (fun h6 => ?_)
 ·refine aq1 ?_
  exact ⟨_, rfl, hK, by rw [nameOk_kw (by simp [kwB]) h6]; rfl⟩
 have hkw := hkw.snoc h6
 refine aq1 ?_
 refine ws_bytes hS rfl rfl rfl rfl rfl rfl rfl rfl rfl rfl hb ?_
 rintro c0 z hS hk
 have hS : SH _ [_] z := hS
 have hK := hS.K
 have hkw : NotKw b kwB := hkw
 refine wvz (oN rfl) ?_
 refine aq1 ?_
 refine wc_loop_at (fun jj m z => ∃ i : Nat, jj = b.size - i ∧ i ≤ b.size ∧ m = [(0, .str b), (19, .slc c0 0 0 1 b.size b.size false), (20, .int .i64 (b.size : Nat)), (21, .int .i64 (i : Nat))] ∧ SH s [frzC c0 (bytesA b)] z ∧ ∀ j, j < i → nameCh j (byB b j) = true) b.size
  [(0, .str b), (19, .slc c0 0 0 1 b.size b.size false), (20, .int .i64 (b.size : Nat)), (21, .int .i64 ((0 : Nat) : Int))] (scn rfl (scn rfl (scn rfl (scn rfl (Sub.nil _))))) ⟨0, by simp, by simp, rfl, hS, fun j h => by omega⟩ ?_
 clear hS hK
 rintro jj m z ⟨i, rfl, hi, rfl, hS, hq⟩
 have hK := hS.K
 refine aq1 ?_
 refine wcd (fun h22 => ?_) (fun h22 => ?_)
 ·have hil : i < b.size := by omega
  have hby := byB_get hil
  have hbl := byB_lt b i
  refine aq1 ?_
  refine wvz (op_idxB rfl rfl (natA_cast _ _) rfl rfl rfl rfl hil) ?_
  refine wvz (v := .int .u8 (byB b i : Nat)) (op_loadB rfl rfl rfl rfl (hS.get 0 rfl) (by rw [bytesA_get hil, hby])) ?_
  refine aq5 ?_
  refine w_split (i := 28) rfl (fun h28 => ?_) (fun h28 => ?_)
  ·simp only [dtt, ge_iff_le] at h28
   refine aq4 ?_
   refine w_split (i := 32) rfl (fun h32 => ?_) (fun h32 => ?_)
   ·simp only [dtt] at h32
    refine aq12 ?_
    refine aq4 ?_
    refine wc_cond_f rfl ?_
    refine aq0 ?_
    refine wad ?_
    refine aq1 ?_
    exact rn ⟨i + 1, rfl, by omega, rfl, hS, fun j hj => (lsl.1 hj).elim (hq j) fun e => by
      rw [e]; first | exact decide_eq_true (by omega) | (simp at h48; exact decide_eq_true (by omega))⟩
   simp only [dff] at h32
   refine aq4 ?_
   refine w_split (i := 36) rfl (fun h36 => ?_) (fun h36 => ?_)
   ·simp only [beq_iff_eq] at h36
    refine aq12 ?_
    refine wc_cond_f rfl ?_
    refine aq0 ?_
    refine wad ?_
    refine aq1 ?_
    exact rn ⟨i + 1, rfl, by omega, rfl, hS, fun j hj => (lsl.1 hj).elim (hq j) fun e => by
      rw [e]; first | exact decide_eq_true (by omega) | (simp at h48; exact decide_eq_true (by omega))⟩
   simp only [bff, ne_eq] at h36
   refine aq3 ?_
   refine w_split (i := 39) rfl (fun h39 => ?_) (fun h39 => ?_)
   ·simp only [dtt, gt_iff_lt] at h39
    refine aq4 ?_
    refine w_split (i := 43) rfl (fun h43 => ?_) (fun h43 => ?_)
    ·simp only [dtt, ge_iff_le] at h43
     refine aq5 ?_
     refine wc_condT rfl (fun h48 => ?_) (fun h48 => ?_)
     ·refine aq1 ?_
      exact ⟨_, rfl, hK, by rw [nameOk_ch hil (decide_eq_false (by omega))]; rfl⟩
     refine aq0 ?_
     refine wad ?_
     refine aq1 ?_
     exact rn ⟨i + 1, rfl, by omega, rfl, hS, fun j hj => (lsl.1 hj).elim (hq j) fun e => by
       rw [e]; first | exact decide_eq_true (by omega) | (simp at h48; exact decide_eq_true (by omega))⟩
    simp only [dff, ge_iff_le] at h43
    refine aq5 ?_
    refine wc_cond_t rfl ?_
    refine aq1 ?_
    exact ⟨_, rfl, hK, by rw [nameOk_ch hil (decide_eq_false (by omega))]; rfl⟩
   simp only [dff, gt_iff_lt] at h39
   refine aq9 ?_
   refine wc_cond_t rfl ?_
   refine aq1 ?_
   exact ⟨_, rfl, hK, by rw [nameOk_ch hil (decide_eq_false (by omega))]; rfl⟩
  simp only [dff, ge_iff_le] at h28
  refine aq8 ?_
  refine w_split (i := 36) rfl (fun h36 => ?_) (fun h36 => ?_)
  ·simp only [beq_iff_eq] at h36
   refine aq12 ?_
   refine wc_cond_f rfl ?_
   refine aq0 ?_
   refine wad ?_
   refine aq1 ?_
   exact rn ⟨i + 1, rfl, by omega, rfl, hS, fun j hj => (lsl.1 hj).elim (hq j) fun e => by
     rw [e]; first | exact decide_eq_true (by omega) | (simp at h48; exact decide_eq_true (by omega))⟩
  simp only [bff, ne_eq] at h36
  refine aq3 ?_
  refine w_split (i := 39) rfl (fun h39 => ?_) (fun h39 => ?_)
  ·simp only [dtt, gt_iff_lt] at h39
   refine aq4 ?_
   refine w_split (i := 43) rfl (fun h43 => ?_) (fun h43 => ?_)
   ·simp only [dtt, ge_iff_le] at h43
    refine aq5 ?_
    refine wc_condT rfl (fun h48 => ?_) (fun h48 => ?_)
    ·refine aq1 ?_
     (simp at h48; exact ⟨_, rfl, hK, by rw [nameOk_ch hil (decide_eq_false (by omega))]; rfl⟩)
    refine aq0 ?_
    refine wad ?_
    refine aq1 ?_
    exact rn ⟨i + 1, rfl, by omega, rfl, hS, fun j hj => (lsl.1 hj).elim (hq j) fun e => by
      rw [e]; first | exact decide_eq_true (by omega) | (simp at h48; exact decide_eq_true (by omega))⟩
   simp only [dff, ge_iff_le] at h43
   refine aq5 ?_
   refine wc_cond_t rfl ?_
   refine aq1 ?_
   exact ⟨_, rfl, hK, by rw [nameOk_ch hil (decide_eq_false (by omega))]; rfl⟩
  simp only [dff, gt_iff_lt] at h39
  refine aq9 ?_
  refine wc_cond_t rfl ?_
  refine aq1 ?_
  exact ⟨_, rfl, hK, by rw [nameOk_ch hil (decide_eq_false (by omega))]; rfl⟩
 obtain rfl : i = b.size := by omega
 refine aq1 ?_
 refine wvz (op_lenS rfl rfl rfl rfl rfl) ?_
 refine aq2 ?_
 refine w_split (i := 53) rfl (fun h53 => ?_) (fun h53 => ?_)
 ·simp only [dtt, ge_iff_le] at h53
  refine aq1 ?_
  refine wvz (op_lenS rfl rfl rfl rfl rfl) ?_
  refine aq3 ?_
  exact ⟨_, rfl, hK, by rw [nameOk_fin hkw hq]; exact congrArg AV.bool (decide_eq_decide.2 (by omega))⟩
 simp only [dff, ge_iff_le] at h53
 refine aq5 ?_
 exact ⟨_, rfl, hK, by rw [nameOk_fin hkw hq]; exact congrArg AV.bool (decide_eq_false (by omega)).symm⟩
end Go.Ab
namespace Go.Ab
open Go.Proofs
theorem SH.of {s z : St} (hK : Keep [] s z) : SH s [] z := ⟨hK, fun i c h => by simp at h, fun i j c d _ h => by simp at h⟩
def empI (b : ByteArray) : Int := if (b == ⟨#[]⟩) = true then 1 else 0
theorem empI_t {b : ByteArray} (h : (b == ⟨#[]⟩) = true) : empI b = 1 := if_pos h
theorem empI_f {b : ByteArray} (h : (b == ⟨#[]⟩) = false) : empI b = 0 := if_neg (by rw [h]; simp)
theorem empI_nt {b : ByteArray} (h : (!(b == ⟨#[]⟩)) = true) : empI b = 0 := empI_f (by simpa only [Bool.not_eq_true'] using h)
theorem empI_nf {b : ByteArray} (h : (!(b == ⟨#[]⟩)) = false) : empI b = 1 := empI_t (by simpa only [Bool.not_eq_false'] using h)
theorem empI_iff {b : ByteArray} : (b == ⟨#[]⟩) = true ↔ empI b = 1 := by
 constructor
 ·exact empI_t
 ·intro h
  cases e : (b == ⟨#[]⟩) with
  | true => rfl
  | false => rw [empI_f e] at h; omega
theorem empI_01 (b : ByteArray) : 0 ≤ empI b ∧ empI b ≤ 1 := by unfold empI; split <;> omega
def wNext (n : Int) (t : TermL) (n' : Int) : Prop :=
 (t.kind = 1 ∧ 0 ≤ t.value ∧ empI t.name = 1 ∧ n' = n + 1) ∨ (t.kind = 2 ∧ t.value = 0 ∧ n' = n + 1) ∨ (t.kind = 3 ∧ 1 ≤ n ∧ t.value = 0 ∧ n' = n) ∨
 (t.kind = 4 ∧ 1 ≤ n ∧ empI t.name = 1 ∧ 15 ≤ t.value ∧ t.value ≤ 17 ∧ n' = n) ∨ (t.kind = 5 ∧ 2 ≤ n ∧ empI t.name = 1 ∧ 1 ≤ t.value ∧ t.value ≤ 14 ∧ n' = n - 1)
def WA (ts : List TermL) : Nat → Int → Prop
 | 0, n => n = 0
 | i + 1, n' => ∃ n t, WA ts i n ∧ ts[i]? = some t ∧ wNext n t n'
open Classical in
noncomputable def wholeN (ts : List TermL) : Bool := decide (WA ts ts.length 1)
theorem WA.uniq {ts : List TermL} : ∀ {i : Nat} {a b : Int}, WA ts i a → WA ts i b → a = b
 | 0, a, b, h, k => by rw [show a = 0 from h, show b = 0 from k]
 | i + 1, a, b, ⟨n, t, h1, h2, h3⟩, ⟨n', t', k1, k2, k3⟩ => by
  have := WA.uniq h1 k1
  subst this
  rw [h2] at k2
  cases k2
  unfold wNext at h3 k3
  omega
theorem WA.back {ts : List TermL} : ∀ {j i : Nat} {a : Int}, i ≤ j → WA ts j a → ∃ b, WA ts i b
 | 0, i, a, hi, h => by
  obtain rfl : i = 0 := by omega
  exact ⟨a, h⟩
 | j + 1, i, a, hi, h => by
  by_cases e : i = j + 1
  ·subst e; exact ⟨a, h⟩
  ·obtain ⟨n, t, h1, -⟩ := h
   exact h1.back (by omega)
theorem WA.next {ts : List TermL} {i : Nat} {n n' : Int} {t : TermL} (h : WA ts i n) (ht : ts[i]? = some t) (k : wNext n t n') : WA ts (i + 1) n' := ⟨n, t, h, ht, k⟩
open Classical in
theorem whole_no {ts : List TermL} {i : Nat} {n : Int} {t : TermL} (h : WA ts i n) (ht : ts[i]? = some t) (k : ∀ n', ¬ wNext n t n') : wholeN ts = false := by
 refine decide_eq_false fun hw => ?_
 have hi := (ges.1 ht).1
 obtain ⟨b, n0, t0, h1, h2, h3⟩ := hw.back (i := i + 1) hi
 rw [h2] at ht
 cases ht
 rw [h1.uniq h] at h3
 exact k b h3
open Classical in
theorem whole_fin {ts : List TermL} {n : Int} (h : WA ts ts.length n) : wholeN ts = (n == 1) := by
 rw [Bool.eq_iff_iff, beq_iff_eq]
 unfold wholeN
 rw [dtt]
 exact ⟨fun k => h.uniq k, fun e => e ▸ h⟩
def fitK (k tl el e : Int) : Prop := (k = 1 ∧ tl = 1 ∧ e = 1 ∧ el = 1) ∨ (k = 2 ∧ tl = 0 ∧ el = 2) ∨ (k = 3 ∧ tl = 0 ∧ el = 1) ∨ k = 4 ∨ ((k = 5 ∨ k = 7) ∧ tl = 0 ∧ e = 1 ∧ el = 1) ∨ ((k = 6 ∨ k = 8) ∧ tl = 0 ∧ e = 1 ∧ el = 0) ∨ (k = 9 ∧ tl = 0 ∧ e = 1)
instance (k tl el e : Int) : Decidable (fitK k tl el e) := by unfold fitK; infer_instance
noncomputable def fitsN (x : StmtL) : Bool := x.exprs.all wholeN && decide (fitK x.kind x.targets.length x.exprs.length (empI x.name))
theorem fe {v : Bool} {p : Prop} [Decidable p] (h : v = decide p := by rw [Bool.eq_iff_iff, dtt]; first | (rw [empI_iff]; unfold fitK; omega) | (simp only [dtt, beq_iff_eq, Bool.false_eq_true, true_iff, false_iff]; unfold fitK; omega)) : AV.bool v = AV.bool (decide p) := by rw [h]
theorem fits_no {x : StmtL} {i : Nat} {ts : List TermL} (h : x.exprs[i]? = some ts) (k : wholeN ts = false) : fitsN x = false := by
 have : x.exprs.all wholeN = false := by
  rw [List.all_eq_false]
  exact ⟨ts, mog h, by rw [k]; simp⟩
 rw [fitsN, this]; rfl
theorem fits_fin {x : StmtL} (h : ∀ (i : Nat) (ts : List TermL), x.exprs[i]? = some ts → wholeN ts = true) : fitsN x = decide (fitK x.kind x.targets.length x.exprs.length (empI x.name)) := by
 have : x.exprs.all wholeN = true := by
  rw [aet]
  intro ts hm
  obtain ⟨i, hi⟩ := List.getElem?_of_mem hm
  exact h i ts hi
 rw [fitsN, this]; rfl
set_option maxRecDepth 10000 in
set_option maxHeartbeats 8000000 in
theorem whole_ok {s : St} {v : AV} {ts : List TermL} (hok : s.Ok) (hl : ts.length ≤ 2097152) (hv : RowP 3 v (ts.map tC)) :
  CallS Tryz.prog Tt Kt 99 [v] s fun r s' => Keep [] s s' ∧ r = .bool (wholeN ts) := by
 refine call_of (fn := Tryz.f99) (nt := 88) Tryz.func99 rfl rfl rfl ?_
 refine aq0 ?_
 have hS := SH.start hok
 have hK := hS.K
 refine aq3 ?_
 refine wvz (op_len rfl rfl rfl rfl rfl (RowP.slen hv |>.trans (by rw [lmm]))) ?_
 refine aq1 ?_
 refine wc_loop_at (fun jj m z => ∃ (i : Nat) (n : Int), jj = ts.length - i ∧ i ≤ ts.length ∧ m = [(3, .int .i64 n), (7, v), (8, .int .i64 (ts.length : Nat)), (9, .int .i64 (i : Nat))] ∧ Keep [] s z ∧ WA ts i n ∧ 0 ≤ n ∧ n ≤ i) ts.length
  [(3, .int .i64 0), (7, v), (8, .int .i64 (ts.length : Nat)), (9, .int .i64 ((0 : Nat) : Int))] (scn rfl (scn rfl (scn rfl (scn rfl (Sub.nil _))))) ⟨0, 0, by simp, by simp, rfl, hK, rfl, by omega, by omega⟩ ?_
 clear hS hK
 rintro jj m z ⟨i, n, rfl, hi, rfl, hK, hW, hn0, hn1⟩
 have hS := SH.of hK
 refine aq1 ?_
 refine wcd (fun h10 => ?_) (fun h10 => ?_)
 ·refine aq0 ?_
  obtain ⟨t, ht⟩ : ∃ t, ts[i]? = some t := ⟨_, gee (by omega)⟩
  have hE01 := empI_01 t.name
  refine aq0 ?_
  refine wvz (oJ (RowP.up hv _)) ?_
  refine wvz (oM (Row.mk_pt (RowP.up hv z.h) ht)) ?_
  refine ws_alloc hS rfl rfl rfl rfl ?_
  rintro p0 z hS hk
  have hS : SH _ [_] z := hS
  refine ws_store 0 hS rfl rfl rfl rfl rfl rfl (by rfl) (nl rfl) ?_
  rintro z hS
  have hS : SH _ [_] z := hS
  have hK := hS.K
  refine aq2 ?_
  refine wvz (oL 0 hS) ?_
  refine aq2 ?_
  refine wcb (fun h15 => ?_) (fun h15 => ?_)
  ·refine aq1 ?_
   refine wvz (oL 0 hS) ?_
   refine aq2 ?_
   refine w_split (i := 20) rfl (fun h20 => ?_) (fun h20 => ?_)
   ·(simp only [dtt, ge_iff_le] at h20)
    refine aq1 ?_
    refine wvz (oL 0 hS) ?_
    refine aq4 ?_
    refine wad ?_
    refine aq3 ?_
    refine wc_condT rfl (fun h84 => ?_) (fun h84 => ?_)
    ·(have hE := empI_nt h84)
     refine aq1 ?_
     exact ⟨_, rfl, hK, by rw [whole_no hW ht (by intro n' h; unfold wNext at h; omega)]; rfl⟩
    (have hE := empI_nf h84)
    refine aq0 ?_
    refine wad ?_
    refine aq1 ?_
    exact rn ⟨i + 1, n + 1, rfl, by omega, rfl, hK, hW.next ht (by unfold wNext; omega), by omega, by omega⟩
   (simp only [dff, ge_iff_le] at h20)
   refine aq6 ?_
   refine wad ?_
   refine aq3 ?_
   refine wc_cond_t rfl ?_
   refine aq1 ?_
   exact ⟨_, rfl, hK, by rw [whole_no hW ht (by intro n' h; unfold wNext at h; omega)]; rfl⟩
  refine aq2 ?_
  refine wcb (fun h27 => ?_) (fun h27 => ?_)
  ·refine aq1 ?_
   refine wvz (oL 0 hS) ?_
   refine aq3 ?_
   refine wad ?_
   refine aq3 ?_
   refine wc_condT rfl (fun h84 => ?_) (fun h84 => ?_)
   ·(simp only [bff, ne_eq, Bool.not_eq_true'] at h84)
    refine aq1 ?_
    exact ⟨_, rfl, hK, by rw [whole_no hW ht (by intro n' h; unfold wNext at h; omega)]; rfl⟩
   (simp only [beq_iff_eq, Bool.not_eq_false'] at h84)
   refine aq0 ?_
   refine wad ?_
   refine aq1 ?_
   exact rn ⟨i + 1, n + 1, rfl, by omega, rfl, hK, hW.next ht (by unfold wNext; omega), by omega, by omega⟩
  refine aq2 ?_
  refine wcb (fun h34 => ?_) (fun h34 => ?_)
  ·refine aq3 ?_
   refine w_split (i := 38) rfl (fun h38 => ?_) (fun h38 => ?_)
   ·(simp only [dtt, ge_iff_le] at h38)
    refine aq1 ?_
    refine wvz (oL 0 hS) ?_
    refine aq5 ?_
    refine wc_condT rfl (fun h84 => ?_) (fun h84 => ?_)
    ·(simp only [bff, ne_eq, Bool.not_eq_true'] at h84)
     refine aq1 ?_
     exact ⟨_, rfl, hK, by rw [whole_no hW ht (by intro n' h; unfold wNext at h; omega)]; rfl⟩
    (simp only [beq_iff_eq, Bool.not_eq_false'] at h84)
    refine aq0 ?_
    refine wad ?_
    refine aq1 ?_
    exact rn ⟨i + 1, n, rfl, by omega, rfl, hK, hW.next ht (by unfold wNext; omega), by omega, by omega⟩
   (simp only [dff, ge_iff_le] at h38)
   refine aq7 ?_
   refine wc_cond_t rfl ?_
   refine aq1 ?_
   exact ⟨_, rfl, hK, by rw [whole_no hW ht (by intro n' h; unfold wNext at h; omega)]; rfl⟩
  refine aq2 ?_
  refine wcb (fun h43 => ?_) (fun h43 => ?_)
  ·refine aq3 ?_
   refine w_split (i := 47) rfl (fun h47 => ?_) (fun h47 => ?_)
   ·(simp only [dtt, ge_iff_le] at h47)
    refine aq1 ?_
    refine wvz (oL 0 hS) ?_
    refine aq3 ?_
    refine w_split (i := 52) rfl (fun h52 => ?_) (fun h52 => ?_)
    ·(have hE := empI_t h52)
     refine aq1 ?_
     refine wvz (oL 0 hS) ?_
     refine aq3 ?_
     refine w_split (i := 57) rfl (fun h57 => ?_) (fun h57 => ?_)
     ·(simp only [dtt, ge_iff_le] at h57)
      refine aq1 ?_
      refine wvz (oL 0 hS) ?_
      refine aq5 ?_
      refine wc_condT rfl (fun h84 => ?_) (fun h84 => ?_)
      ·(simp only [dff, Bool.not_eq_true'] at h84)
       refine aq1 ?_
       exact ⟨_, rfl, hK, by rw [whole_no hW ht (by intro n' h; unfold wNext at h; omega)]; rfl⟩
      (simp only [dtt, Bool.not_eq_false'] at h84)
      refine aq0 ?_
      refine wad ?_
      refine aq1 ?_
      exact rn ⟨i + 1, n, rfl, by omega, rfl, hK, hW.next ht (by unfold wNext; omega), by omega, by omega⟩
     (simp only [dff, ge_iff_le] at h57)
     refine aq7 ?_
     refine wc_cond_t rfl ?_
     refine aq1 ?_
     exact ⟨_, rfl, hK, by rw [whole_no hW ht (by intro n' h; unfold wNext at h; omega)]; rfl⟩
    (have hE := empI_f h52)
    refine aq12 ?_
    refine wc_cond_t rfl ?_
    refine aq1 ?_
    exact ⟨_, rfl, hK, by rw [whole_no hW ht (by intro n' h; unfold wNext at h; omega)]; rfl⟩
   (simp only [dff, ge_iff_le] at h47)
   refine aq12 ?_
   refine aq5 ?_
   refine wc_cond_t rfl ?_
   refine aq1 ?_
   exact ⟨_, rfl, hK, by rw [whole_no hW ht (by intro n' h; unfold wNext at h; omega)]; rfl⟩
  refine aq2 ?_
  refine wcb (fun h62 => ?_) (fun h62 => ?_)
  ·refine aq3 ?_
   refine w_split (i := 66) rfl (fun h66 => ?_) (fun h66 => ?_)
   ·(simp only [dtt, ge_iff_le] at h66)
    refine aq1 ?_
    refine wvz (oL 0 hS) ?_
    refine aq3 ?_
    refine w_split (i := 71) rfl (fun h71 => ?_) (fun h71 => ?_)
    ·(have hE := empI_t h71)
     refine aq1 ?_
     refine wvz (oL 0 hS) ?_
     refine aq3 ?_
     refine w_split (i := 76) rfl (fun h76 => ?_) (fun h76 => ?_)
     ·(simp only [dtt, ge_iff_le] at h76)
      refine aq1 ?_
      refine wvz (oL 0 hS) ?_
      refine aq4 ?_
      refine wvz (op_sub rfl rfl (by unfold In64; omega)) ?_
      refine aq3 ?_
      refine wc_condT rfl (fun h84 => ?_) (fun h84 => ?_)
      ·(simp only [dff, Bool.not_eq_true'] at h84)
       refine aq1 ?_
       exact ⟨_, rfl, hK, by rw [whole_no hW ht (by intro n' h; unfold wNext at h; omega)]; rfl⟩
      (simp only [dtt, Bool.not_eq_false'] at h84)
      refine aq0 ?_
      refine wad ?_
      refine aq1 ?_
      exact rn ⟨i + 1, n - 1, rfl, by omega, rfl, hK, hW.next ht (by unfold wNext; omega), by omega, by omega⟩
     (simp only [dff, ge_iff_le] at h76)
     refine aq6 ?_
     refine wvz (op_sub rfl rfl (by unfold In64; omega)) ?_
     refine aq3 ?_
     refine wc_cond_t rfl ?_
     refine aq1 ?_
     exact ⟨_, rfl, hK, by rw [whole_no hW ht (by intro n' h; unfold wNext at h; omega)]; rfl⟩
    (have hE := empI_f h71)
    refine aq11 ?_
    refine wvz (op_sub rfl rfl (by unfold In64; omega)) ?_
    refine aq3 ?_
    refine wc_cond_t rfl ?_
    refine aq1 ?_
    exact ⟨_, rfl, hK, by rw [whole_no hW ht (by intro n' h; unfold wNext at h; omega)]; rfl⟩
   (simp only [dff, ge_iff_le] at h66)
   refine aq12 ?_
   refine aq4 ?_
   refine wvz (op_sub rfl rfl (by unfold In64; omega)) ?_
   refine aq3 ?_
   refine wc_cond_t rfl ?_
   refine aq1 ?_
   exact ⟨_, rfl, hK, by rw [whole_no hW ht (by intro n' h; unfold wNext at h; omega)]; rfl⟩
  refine aq2 ?_
  refine wc_cond_t rfl ?_
  refine aq1 ?_
  exact ⟨_, rfl, hK, by rw [whole_no hW ht (by intro n' h; unfold wNext at h; omega)]; rfl⟩
 obtain rfl : i = ts.length := by omega
 refine aq3 ?_
 exact ⟨_, rfl, hK, by rw [whole_fin hW]; rfl⟩
set_option maxRecDepth 10000 in
set_option maxHeartbeats 8000000 in
theorem fits_ok {s : St} {c : List AV} {x : StmtL} (hok : s.Ok) (hx : x.small) (hv : StmtR .leaf x c) :
  CallS Tryz.prog Tt Kt 69 [.agg c] s fun r s' => Keep [] s s' ∧ r = .bool (fitsN x) := by
 obtain ⟨vt, ve, rfl, hvt, hve⟩ := hv
 obtain ⟨hx1, hx2, hx3⟩ := hx
 have hz : ([.int .i64 x.kind, .str x.name, vt, ve] : List AV).all AV.leaf = true := by
  obtain ⟨css, h5, -⟩ := id hve
  simp only [List.all_cons, List.all_nil, hvt.leaf, h5.leaf]; rfl
 obtain ⟨cse, hre, hle, hE⟩ := hve
 have hse : ve.slen = some x.exprs.length := by rw [hre.slen, hle]
 have hst : vt.slen = some x.targets.length := by rw [hvt.slen, lmm]
 have hE01 := empI_01 x.name
 refine call_of (fn := Tryz.f69) (nt := 92) Tryz.func69 rfl rfl rfl ?_
 refine aq0 ?_
 have hS := SH.start hok
 refine aq0 ?_
 refine ws_box hS rfl rfl rfl hz ?_
 rintro p0 z hS hk
 have hS : SH _ [_] z := hS
 have hK := hS.K
 refine aq2 ?_
 refine wvz (oL 0 hS) ?_
 refine wvz (oN hse) ?_
 refine aq1 ?_
 refine wc_loop_at (fun jj m z => ∃ i : Nat, jj = x.exprs.length - i ∧ i ≤ x.exprs.length ∧ m = [(0, .agg [.int .i64 x.kind, .str x.name, vt, ve]), (1, .ptr p0 0 0), (8, ve), (9, .int .i64 (x.exprs.length : Nat)), (10, .int .i64 (i : Nat))] ∧ SH s [ptC (.ptr p0 0 0) [.int .i64 x.kind, .str x.name, vt, ve]] z ∧ ∀ (j : Nat) (ts : List TermL), j < i → x.exprs[j]? = some ts → wholeN ts = true) x.exprs.length
  [(0, .agg [.int .i64 x.kind, .str x.name, vt, ve]), (1, .ptr p0 0 0), (8, ve), (9, .int .i64 (x.exprs.length : Nat)), (10, .int .i64 ((0 : Nat) : Int))] (scn rfl (scn rfl (scn rfl (scn rfl (scn rfl (Sub.nil _)))))) ⟨0, by simp, by simp, rfl, hS, fun j ts h => by omega⟩ ?_
 clear hS hK
 rintro jj m z ⟨i, rfl, hi, rfl, hS, hq⟩
 have hK := hS.K
 refine aq1 ?_
 refine wcd (fun h11 => ?_) (fun h11 => ?_)
 ·refine aq0 ?_
  obtain ⟨ts, hts⟩ : ∃ ts, x.exprs[i]? = some ts := ⟨_, gee (by omega)⟩
  obtain ⟨ce, hce⟩ : ∃ c, cse[i]? = some c := ⟨_, gee (by omega)⟩
  obtain ⟨et, rfl, het⟩ := hE i ts ce hts hce
  have htl := hx3 ts (mog hts)
  refine aq0 ?_
  refine wvz (oI (RowP.up hre _)) ?_
  refine wvz (oM (Row.pt (RowP.up hre z.h) hce)) ?_
  refine aq2 ?_
  refine wkz (whole_ok hK.ok htl het) ?_
  rintro _ z ⟨hk, rfl⟩
  have hS := hS.mov hk
  have hK := hS.K
  refine aq1 ?_
  refine wc_condT rfl (fun h16 => ?_) (fun h16 => ?_)
  ·have hw : wholeN ts = false := by simpa only [Bool.not_eq_true'] using h16
   refine aq1 ?_
   exact ⟨_, rfl, hK, by rw [fits_no hts hw]; rfl⟩
  have hw : wholeN ts = true := by simpa only [Bool.not_eq_false'] using h16
  refine aq0 ?_
  refine wad ?_
  refine aq1 ?_
  exact rn ⟨i + 1, rfl, by omega, rfl, hS, fun j ts' hj hjt => (lsl.1 hj).elim (fun h => hq j ts' h hjt) fun e => by subst e; rw [hts] at hjt; cases hjt; exact hw⟩
 obtain rfl : i = x.exprs.length := by omega
 have hall : ∀ (j : Nat) (ts : List TermL), x.exprs[j]? = some ts → wholeN ts = true := fun j ts h => hq j ts (ges.1 h).1 h
 clear hq
 refine aq0 ?_
 refine wc_draw (fun _ => True) (by kernel_rfl) rfl ?_
 refine wdv (op_fldP rfl rfl rfl rfl (by decide)) ?_
 refine wdv (oM (Pt.bare ((hS.pt 0 rfl).at (nl rfl)))) ?_
 refine wdv (oN hst) ?_
 refine aq1 ?_
 refine wdv (op_fldP rfl rfl rfl rfl (by decide)) ?_
 refine wdv (oM (Pt.bare ((hS.pt 0 rfl).at (nl rfl)))) ?_
 refine wdv (oN hse) ?_
 refine aq3 ?_
 refine wvz (oL 0 hS) ?_
 refine aq2 ?_
 refine wc_condT rfl (fun h27 => ?_) (fun h27 => ?_)
 ·(simp only [beq_iff_eq] at h27)
  refine aq1 ?_
  refine wvz (oL 0 hS) ?_
  refine wvz (oN hst) ?_
  refine aq2 ?_
  refine w_split (i := 33) rfl (fun h33 => ?_) (fun h33 => ?_)
  ·(simp only [beq_iff_eq] at h33)
   refine aq1 ?_
   refine wvz (oL 0 hS) ?_
   refine aq3 ?_
   refine w_split (i := 38) rfl (fun h38 => ?_) (fun h38 => ?_)
   ·(have hE := empI_t h38)
    refine aq4 ?_
    (rw [fits_fin hall]; exact ⟨_, rfl, hK, fe⟩)
   (have hE := empI_f h38)
   refine aq4 ?_
   (rw [fits_fin hall]; exact ⟨_, rfl, hK, fe⟩)
  (simp only [bff, ne_eq] at h33)
  refine aq9 ?_
  (rw [fits_fin hall]; exact ⟨_, rfl, hK, fe⟩)
 (simp only [bff, ne_eq] at h27)
 refine aq2 ?_
 refine wc_condT rfl (fun h42 => ?_) (fun h42 => ?_)
 ·(simp only [beq_iff_eq] at h42)
  refine aq2 ?_
  refine w_split (i := 45) rfl (fun h45 => ?_) (fun h45 => ?_)
  ·(simp only [beq_iff_eq] at h45)
   refine aq4 ?_
   (rw [fits_fin hall]; exact ⟨_, rfl, hK, fe⟩)
  (simp only [bff, ne_eq] at h45)
  refine aq4 ?_
  (rw [fits_fin hall]; exact ⟨_, rfl, hK, fe⟩)
 (simp only [bff, ne_eq] at h42)
 refine aq2 ?_
 refine wc_condT rfl (fun h49 => ?_) (fun h49 => ?_)
 ·(simp only [beq_iff_eq] at h49)
  refine aq2 ?_
  refine w_split (i := 52) rfl (fun h52 => ?_) (fun h52 => ?_)
  ·(simp only [beq_iff_eq] at h52)
   refine aq4 ?_
   (rw [fits_fin hall]; exact ⟨_, rfl, hK, fe⟩)
  (simp only [bff, ne_eq] at h52)
  refine aq4 ?_
  (rw [fits_fin hall]; exact ⟨_, rfl, hK, fe⟩)
 (simp only [bff, ne_eq] at h49)
 refine aq2 ?_
 refine wc_condT rfl (fun h56 => ?_) (fun h56 => ?_)
 ·(simp only [beq_iff_eq] at h56)
  refine aq1 ?_
  (rw [fits_fin hall]; exact ⟨_, rfl, hK, fe⟩)
 (simp only [bff, ne_eq] at h56)
 refine aq2 ?_
 refine wc_condT rfl (fun h58 => ?_) (fun h58 => ?_)
 ·(simp only [beq_iff_eq] at h58)
  refine aq0 ?_
  refine wc_cond_t rfl ?_
  refine aq2 ?_
  refine w_split (i := 62) rfl (fun h62 => ?_) (fun h62 => ?_)
  ·(simp only [beq_iff_eq] at h62)
   refine aq1 ?_
   refine wvz (oL 0 hS) ?_
   refine aq3 ?_
   refine w_split (i := 67) rfl (fun h67 => ?_) (fun h67 => ?_)
   ·(have hE := empI_t h67)
    refine aq4 ?_
    (rw [fits_fin hall]; exact ⟨_, rfl, hK, fe⟩)
   (have hE := empI_f h67)
   refine aq4 ?_
   (rw [fits_fin hall]; exact ⟨_, rfl, hK, fe⟩)
  (simp only [bff, ne_eq] at h62)
  refine aq9 ?_
  (rw [fits_fin hall]; exact ⟨_, rfl, hK, fe⟩)
 (simp only [bff, ne_eq] at h58)
 refine aq2 ?_
 refine wc_condT rfl (fun h58 => ?_) (fun h58 => ?_)
 ·(simp only [beq_iff_eq] at h58)
  refine aq2 ?_
  refine w_split (i := 62) rfl (fun h62 => ?_) (fun h62 => ?_)
  ·(simp only [beq_iff_eq] at h62)
   refine aq1 ?_
   refine wvz (oL 0 hS) ?_
   refine aq3 ?_
   refine w_split (i := 67) rfl (fun h67 => ?_) (fun h67 => ?_)
   ·(have hE := empI_t h67)
    refine aq4 ?_
    (rw [fits_fin hall]; exact ⟨_, rfl, hK, fe⟩)
   (have hE := empI_f h67)
   refine aq4 ?_
   (rw [fits_fin hall]; exact ⟨_, rfl, hK, fe⟩)
  (simp only [bff, ne_eq] at h62)
  refine aq9 ?_
  (rw [fits_fin hall]; exact ⟨_, rfl, hK, fe⟩)
 (simp only [bff, ne_eq] at h58)
 refine aq2 ?_
 refine wc_condT rfl (fun h71 => ?_) (fun h71 => ?_)
 ·(simp only [beq_iff_eq] at h71)
  refine aq0 ?_
  refine wc_cond_t rfl ?_
  refine aq2 ?_
  refine w_split (i := 75) rfl (fun h75 => ?_) (fun h75 => ?_)
  ·(simp only [beq_iff_eq] at h75)
   refine aq1 ?_
   refine wvz (oL 0 hS) ?_
   refine aq3 ?_
   refine w_split (i := 80) rfl (fun h80 => ?_) (fun h80 => ?_)
   ·(have hE := empI_t h80)
    refine aq4 ?_
    (rw [fits_fin hall]; exact ⟨_, rfl, hK, fe⟩)
   (have hE := empI_f h80)
   refine aq4 ?_
   (rw [fits_fin hall]; exact ⟨_, rfl, hK, fe⟩)
  (simp only [bff, ne_eq] at h75)
  refine aq9 ?_
  (rw [fits_fin hall]; exact ⟨_, rfl, hK, fe⟩)
 (simp only [bff, ne_eq] at h71)
 refine aq2 ?_
 refine wc_condT rfl (fun h71 => ?_) (fun h71 => ?_)
 ·(simp only [beq_iff_eq] at h71)
  refine aq2 ?_
  refine w_split (i := 75) rfl (fun h75 => ?_) (fun h75 => ?_)
  ·(simp only [beq_iff_eq] at h75)
   refine aq1 ?_
   refine wvz (oL 0 hS) ?_
   refine aq3 ?_
   refine w_split (i := 80) rfl (fun h80 => ?_) (fun h80 => ?_)
   ·(have hE := empI_t h80)
    refine aq4 ?_
    (rw [fits_fin hall]; exact ⟨_, rfl, hK, fe⟩)
   (have hE := empI_f h80)
   refine aq4 ?_
   (rw [fits_fin hall]; exact ⟨_, rfl, hK, fe⟩)
  (simp only [bff, ne_eq] at h75)
  refine aq9 ?_
  (rw [fits_fin hall]; exact ⟨_, rfl, hK, fe⟩)
 (simp only [bff, ne_eq] at h71)
 refine aq2 ?_
 refine wc_condT rfl (fun h84 => ?_) (fun h84 => ?_)
 ·(simp only [beq_iff_eq] at h84)
  refine aq2 ?_
  refine w_split (i := 87) rfl (fun h87 => ?_) (fun h87 => ?_)
  ·(simp only [beq_iff_eq] at h87)
   refine aq1 ?_
   refine wvz (oL 0 hS) ?_
   refine aq3 ?_
   (rw [fits_fin hall]; exact ⟨_, rfl, hK, fe⟩)
  (simp only [bff, ne_eq] at h87)
  refine aq5 ?_
  (rw [fits_fin hall]; exact ⟨_, rfl, hK, fe⟩)
 (simp only [bff, ne_eq] at h84)
 refine aq1 ?_
 (rw [fits_fin hall]; exact ⟨_, rfl, hK, fe⟩)
end Go.Ab
namespace Go.Ab
open Go.Proofs
def tellF (x : Flt) (b : Bool) (y : Flt) : Flt := if b = true ∧ x.err = 0 then y else x
def ckC (c0 c1 c2 c3 c4 : AV) (x : Flt) : List AV := [c0, c1, c2, c3, c4, .int .i64 x.err, .int .i64 x.f, .int .i64 x.at_]
def forN (n : Nat) (l : Int) : Bool := decide (n < 64) && decide (l.fdiv (2 ^ n) ≠ 0)
set_option maxRecDepth 10000 in
set_option maxHeartbeats 8000000 in
theorem tell_ok {s : St} {c : Nat} {c0 c1 c2 c3 c4 : AV} {x : Flt} {b : Bool} {e f a : Int} (hok : s.Ok) (hp : Pt s.h (.ptr c 0 0) (ckC c0 c1 c2 c3 c4 x)) :
  CallS Tryz.prog Tt Kt 61 [.ptr c 0 0, .bool b, .int .i64 e, .int .i64 f, .int .i64 a] s fun r s' => Keep [c] s s' ∧ Pt s'.h (.ptr c 0 0) (ckC c0 c1 c2 c3 c4 (tellF x b ⟨e, f, a⟩)) ∧ r = .tup [] := by
 refine call_of (fn := Tryz.f61) (nt := 26) Tryz.func61 rfl rfl rfl ?_
 refine aq2 ?_
 refine w_split (i := 11) rfl (fun h11 => ?_) (fun h11 => ?_)
 ·refine aq4 ?_
  refine wvz (v := .int .i64 x.err) (oM (Pt.at hp (o := 5) (nl rfl))) ?_
  refine aq2 ?_
  refine wcb (fun h18 => ?_) (fun h18 => ?_)
  ·refine aq7 ?_
   refine w_store_fld (o := 5) (p := .ptr c 0 0) rfl (by show some (AV.ptr c 0 (0 + 5)) = _; rfl) rfl rfl rfl rfl hok hp (by simp [AV.gs]) (nl rfl) ?_
   rintro z hz hk hc
   refine aq0 ?_
   exact ⟨_, rfl, hk, by rw [tellF, if_pos ⟨h11, h18⟩]; exact hz, rfl⟩
  refine aq0 ?_
  exact ⟨_, rfl, (Keep.refl hok).more (fun g hg => by cases hg), by rw [tellF, if_neg (fun h => h18 h.2)]; exact hp, rfl⟩
 refine aq7 ?_
 refine wc_cond_f rfl ?_
 refine aq0 ?_
 exact ⟨_, rfl, (Keep.refl hok).more (fun g hg => by cases hg), by rw [tellF, if_neg (fun h => by rw [h11] at h; cases h.1)]; exact hp, rfl⟩
theorem shr_u64 {T : Tab} {xt : TypeId} {k' : IntKind} {a : Int} (k : Nat) : binA T .shr xt (.int .u64 a) (.int k' (k : Nat)) = some (.int .u64 (a.fdiv (2 ^ (min k 64)))) := by
 have h : ¬ ((k : Nat) : Int) < 0 := by omega
 simp only [binA, shiftA, if_neg h, Int.toNat_natCast]
 rfl
theorem shr_i {a : Int} (k : Nat) : binA Tt .shr 29 (.int .u64 a) (.int .i64 (k : Nat)) = some (.int .u64 (a.fdiv (2 ^ (min k 64)))) := shr_u64 k
set_option maxRecDepth 10000 in
set_option maxHeartbeats 8000000 in
theorem foreign_ok {s : St} {c n : Nat} {c0 c1 c2 c3 c4 : AV} {x : Flt} {l : Int} (hok : s.Ok) (hp : Pt s.h (.ptr c 0 0) (ckC c0 c1 c2 c3 c4 x)) (hc0 : c0.slen = some n) :
  CallS Tryz.prog Tt Kt 65 [.ptr c 0 0, .int .u64 l] s fun r s' => Keep [] s s' ∧ r = .bool (forN n l) := by
 refine call_of (fn := Tryz.f65) (nt := 20) Tryz.func65 rfl rfl rfl ?_
 refine aq5 ?_
 refine wvz (v := c0) (oM (Pt.at hp (o := 0) (Nat.zero_le _))) ?_
 refine wvz (oN hc0) ?_
 refine aq4 ?_
 refine w_split (i := 14) rfl (fun h14 => ?_) (fun h14 => ?_)
 ·simp only [dtt] at h14
  refine aq2 ?_
  refine wvz (op_pure (shr_i n)) ?_
  refine aq3 ?_
  refine ⟨_, rfl, Keep.refl hok, congrArg AV.bool ?_⟩
  have e : min n 64 = n := by omega
  rw [forN, e, decide_eq_true (by omega), Bool.true_and]
  rw [Bool.eq_iff_iff]; simp
 simp only [dff] at h14
 refine aq6 ?_
 exact ⟨_, rfl, Keep.refl hok, by rw [forN, decide_eq_false (by omega)]; rfl⟩
set_option maxRecDepth 10000 in
set_option maxHeartbeats 8000000 in
theorem indexS_ok {s : St} {v : AV} {ns : List ByteArray} {nm : ByteArray} (hok : s.Ok) (hl : ns.length ≤ 2097152) (hv : RowP 1 v (ns.map sC)) :
  CallS Tryz.prog Tt Kt 98 [v, .str nm] s fun r s' => Keep [] s s' ∧ r = .int .i64 (fiI ns nm) := by
 refine call_of (fn := Tryz.f98) (nt := 19) Tryz.func98 rfl rfl rfl ?_
 refine aq0 ?_
 have hK := Keep.refl hok
 refine aq2 ?_
 refine wvz (op_len rfl rfl rfl rfl rfl (RowP.slen hv |>.trans (by rw [lmm]))) ?_
 refine aq1 ?_
 refine wc_loop_at (fun jj m z => ∃ i : Nat, jj = ns.length - i ∧ i ≤ ns.length ∧ m = [(0, v), (1, .str nm), (7, .int .i64 (ns.length : Nat)), (8, .int .i64 (i : Nat))] ∧ z = s ∧ ∀ j, j < i → eqS (ns.getD j ByteArray.empty) nm = false) ns.length
  [(0, v), (1, .str nm), (7, .int .i64 (ns.length : Nat)), (8, .int .i64 ((0 : Nat) : Int))] (scn rfl (scn rfl (scn rfl (scn rfl (Sub.nil _))))) ⟨0, by simp, by simp, rfl, rfl, fun j h => by omega⟩ ?_
 rintro jj m z ⟨i, rfl, hi, rfl, eX, hq⟩
 obtain rfl := eX.symm
 refine aq1 ?_
 refine wcd (fun h9 => ?_) (fun h9 => ?_)
 ·refine aq0 ?_
  obtain ⟨n, hn⟩ : ∃ n, ns[i]? = some n := ⟨_, gee (by omega)⟩
  have hgn : ns.getD i ByteArray.empty = n := by rw [gdd, hn]; rfl
  refine aq5 ?_
  refine wvz (oJ (RowP.up hv _)) ?_
  refine wvz (oM (Row.mk_pt (RowP.up hv _) hn)) ?_
  refine aq1 ?_
  refine wc_condT rfl (fun h16 => ?_) (fun h16 => ?_)
  ·have hq1 : eqS (ns.getD i ByteArray.empty) nm = true := by rw [hgn, eqS, BEq.comm]; exact h16
   refine aq2 ?_
   exact ⟨_, rfl, hK, by rw [fiI_hit hq (by omega) hq1]; rfl⟩
  have hq1 : eqS (ns.getD i ByteArray.empty) nm = false := by rw [hgn, eqS, BEq.comm]; exact h16
  refine aq0 ?_
  refine wad ?_
  refine aq1 ?_
  exact rn ⟨i + 1, rfl, by omega, rfl, rfl, fun j hj => (lsl.1 hj).elim (hq j) fun e => by rw [e]; exact hq1⟩
 obtain rfl : i = ns.length := by omega
 refine aq1 ?_
 exact ⟨_, rfl, hK, by rw [fiI_none hq]; rfl⟩
set_option maxRecDepth 10000 in
set_option maxHeartbeats 8000000 in
theorem containsS_ok {s : St} {v : AV} {ns : List ByteArray} {nm : ByteArray} (hok : s.Ok) (hl : ns.length ≤ 2097152) (hv : RowP 1 v (ns.map sC)) :
  CallS Tryz.prog Tt Kt 63 [v, .str nm] s fun r s' => Keep [] s s' ∧ r = .bool (decide (0 ≤ fiI ns nm)) := by
 refine call_of (fn := Tryz.f63) (nt := 9) Tryz.func63 rfl rfl rfl ?_
 refine aq0 ?_
 have hS := SH.start hok
 refine aq3 ?_
 refine wkz (indexS_ok hok hl hv) ?_
 rintro _ z ⟨hk, rfl⟩
 have hS := hS.mov hk
 have hK := hS.K
 refine aq2 ?_
 exact ⟨_, rfl, hK, rfl⟩
end Go.Ab
namespace Go.Ab
theorem eqS_iff {a b : ByteArray} : eqS a b = true ↔ a = b := beq_iff_eq
theorem ba_beq {a b : ByteArray} : (a == b) = true ↔ a = b := by
 cases a with | mk x => cases b with | mk y =>
  show (x == y) = true ↔ _
  rw [beq_iff_eq]
  constructor
  ·intro h; rw [h]
  ·intro h; cases h; rfl
theorem fiI_mem {ns : List ByteArray} {nm : ByteArray} : 0 ≤ fiI ns nm ↔ nm ∈ ns := by
 constructor
 ·intro h
  unfold fiI idxQ at h
  cases hf : (List.range ns.length).find? fun i => eqS (ns.getD i ByteArray.empty) nm with
  | none => rw [hf] at h; simp only at h; omega
  | some i =>
   have h1 := List.find?_some hf
   have h2 := List.mem_of_find?_eq_some hf
   simp only [List.mem_range] at h2
   rw [eqS_iff, gdd, gee h2] at h1
   rw [← h1]
   exact List.getElem_mem h2
 ·intro h
  obtain ⟨i, hi⟩ := List.getElem?_of_mem h
  have hl := (ges.1 hi).1
  unfold fiI idxQ
  cases hf : (List.range ns.length).find? fun i => eqS (ns.getD i ByteArray.empty) nm with
  | some j => simp only; omega
  | none =>
   rw [List.find?_eq_none] at hf
   have := hf i (by simpa using hl)
   rw [gdd, hi] at this
   exact (this (eqS_iff.2 rfl)).elim
def SeenR (es : List (AV × AV)) (ns : List ByteArray) : Prop := (∀ p ∈ es, ∃ (nm : ByteArray) (k : Nat), p = (.str nm, .int .i64 k) ∧ 1 ≤ k ∧ k ≤ ns.length) ∧ ∀ nm : ByteArray, (∃ p ∈ es, p.1 = .str nm) ↔ nm ∈ ns
theorem SeenR.nil : SeenR [] [] := ⟨(fun p h => by cases h), fun nm => by simp⟩
theorem find_seen {nm : ByteArray} : ∀ {es : List (AV × AV)} {B : Nat} (i : Nat), (∀ p ∈ es, ∃ (nm : ByteArray) (k : Nat), p = (.str nm, .int .i64 k) ∧ 1 ≤ k ∧ k ≤ B) →
  ((¬ ∃ p ∈ es, p.1 = .str nm) ∧ mpFind (.str nm) es i = some none) ∨ ∃ j k : Nat, i ≤ j ∧ es[j - i]? = some (.str nm, .int .i64 (k : Nat)) ∧ 1 ≤ k ∧ k ≤ B ∧ mpFind (.str nm) es i = some (some (j, .int .i64 (k : Nat)))
 | [], B, i, _ => .inl ⟨by simp, rfl⟩
 | p :: es, B, i, h => by
  obtain ⟨m, k, rfl, h1, h2⟩ := h p (mcs ..)
  unfold mpFind
  simp only [keyEq]
  cases e : (nm == m) with
  | true =>
   have : nm = m := ba_beq.1 e
   subst this
   exact .inr ⟨i, k, nlr _, by simp, h1, h2, rfl⟩
  | false =>
   have hne : nm ≠ m := fun h => by rw [ba_beq.2 h] at e; cases e
   rcases find_seen (i + 1) (fun q hq => h q (List.mem_cons_of_mem _ hq)) with ⟨k1, k2⟩ | ⟨j, k', k1, k2, k3, k4, k5⟩
   ·refine .inl ⟨?_, k2⟩
    rintro ⟨q, hq, hqn⟩
    rcases List.mem_cons.1 hq with rfl | hq
    ·cases hqn; exact hne rfl
    ·exact k1 ⟨q, hq, hqn⟩
   ·exact .inr ⟨j, k', by omega, by rw [show j - i = (j - (i + 1)) + 1 by omega, List.getElem?_cons_succ]; exact k2, k3, k4, k5⟩
def mUpd (es : List (AV × AV)) (k v : AV) : List (AV × AV) := match mpFind k es 0 with
 | some (some (i, _)) => es.set i (k, v)
 | _ => es ++ [(k, v)]
theorem seen_look {es : List (AV × AV)} {ns : List ByteArray} (h : SeenR es ns) (nm : ByteArray) {ie : TI} (ha : ie.sh.isAgg = false) (hz : ie.zero = [.int .i64 0]) :
  ∃ k : Nat, lookV ie es (.str nm) = some (.int .i64 (k : Nat)) ∧ (0 < k ↔ nm ∈ ns) ∧ k ≤ ns.length ∧ (∃ r, mpFind (.str nm) es 0 = some r) ∧ SeenR (mUpd es (.str nm) (.int .i64 ((k : Nat) + 1))) (ns ++ [nm]) := by
 rcases find_seen (nm := nm) 0 h.1 with ⟨h1, h2⟩ | ⟨j, k, -, h2, h3, h4, h5⟩
 ·refine ⟨0, ?_, ?_, Nat.zero_le _, ⟨_, h2⟩, ?_, ?_⟩
  ·unfold lookV
   rw [h2]
   simp only [ofCells, ha, hz, Bool.false_eq_true, if_false]
   rfl
  ·rw [← h.2 nm]
   exact ⟨fun h => by omega, fun h => (h1 h).elim⟩
  ·intro p hp
   unfold mUpd at hp
   rw [h2] at hp
   simp only at hp
   rcases List.mem_append.1 hp with hp | hp
   ·obtain ⟨m, q, e, a, b⟩ := h.1 p hp
    exact ⟨m, q, e, a, by simp; omega⟩
   ·rw [msi.1 hp]
    exact ⟨nm, 1, rfl, nlr _, by simp⟩
  ·intro m
   unfold mUpd
   rw [h2]
   simp only
   rw [List.mem_append, msi, ← h.2 m]
   constructor
   ·rintro ⟨p, hp, e⟩
    rcases List.mem_append.1 hp with hp | hp
    ·exact .inl ⟨p, hp, e⟩
    ·rw [msi.1 hp] at e; cases e; exact .inr rfl
   ·rintro (⟨p, hp, e⟩ | rfl)
    ·exact ⟨p, List.mem_append_left _ hp, e⟩
    ·exact ⟨_, List.mem_append_right _ (msi.2 rfl), rfl⟩
 ·rw [Nat.sub_zero] at h2
  have hm : nm ∈ ns := (h.2 nm).1 ⟨_, mog h2, rfl⟩
  have hj := (ges.1 h2).1
  refine ⟨k, ?_, ⟨fun _ => hm, fun _ => by omega⟩, h4, ⟨_, h5⟩, ?_, ?_⟩
  ·unfold lookV; rw [h5]
  ·intro p hp
   unfold mUpd at hp
   rw [h5] at hp
   simp only at hp
   rcases List.mem_or_eq_of_mem_set hp with hp | rfl
   ·obtain ⟨m, q, e, a, b⟩ := h.1 p hp
    exact ⟨m, q, e, a, by simp; omega⟩
   ·exact ⟨nm, k + 1, by simp, by omega, by simp; omega⟩
  ·intro m
   unfold mUpd
   rw [h5]
   simp only
   rw [List.mem_append, msi, ← h.2 m]
   constructor
   ·rintro ⟨p, hp, e⟩
    rcases List.mem_or_eq_of_mem_set hp with hp | rfl
    ·exact .inl ⟨p, hp, e⟩
    ·cases e; exact .inr rfl
   ·rintro (⟨p, hp, e⟩ | rfl)
    ·obtain ⟨i, hi⟩ := List.getElem?_of_mem hp
     by_cases hij : i = j
     ·subst hij
      rw [h2] at hi
      cases hi
      cases e
      exact ⟨(.str nm, .int .i64 ((k : Nat) + 1)), mog (i := i) (by rw [List.getElem?_set_self hj]), rfl⟩
     ·exact ⟨p, mog (i := i) (by rw [List.getElem?_set_ne (fun h => hij h.symm)]; exact hi), e⟩
    ·exact ⟨(.str m, .int .i64 ((k : Nat) + 1)), mog (i := j) (by rw [List.getElem?_set_self hj]), rfl⟩
section
variable {P : Program} {T : Tab} {K : Kn} {nt : NT} {ops : Array Oper} {rest : List Oper} {m : Sy} {s s0 : St} {Q : Sy → St → Prop} {d ty : Nat} {pos : String} {af : Array Edge} {g : Option (Nat × Bool)} {L : List Chunk} {X : List Nat}
theorem ws_mapUpd {tt kt et : TypeId} {i : TI} {x y z : Operand} {c : Nat} {es : List (AV × AV)} {vk vx : AV} (n : Nat) (hS : SH s0 L s X) (hn : L[n]? = some (mapC c es)) (hg : guardY ops m g = some true) (hT : T tt = some i) (hs : i.sh = .map kt et) (hx : evY m x = some (.mp c)) (hy : evY m y = some vk) (hz : evY m z = some vx)
  (hko : keyOk T kt vk = true) (hf : ∃ r, mpFind vk es 0 = some r) (k : ∀ s', SH s0 (L.set n (mapC c (mUpd es vk vx))) s' X → W P T K nt ops rest m s' Q) : W P T K nt ops (⟨none, .mapUpdate tt x y z, ty, pos, af, g⟩ :: rest) m s Q := by
 obtain ⟨sh, size, by_, zero, flat⟩ := i
 cases hs
 have hm : MapAt s.h c es := hS.get n hn
 obtain ⟨r, hr⟩ := hf
 have hmu : MapAt (s.setG c ⟨[⟨[], 0, some (.mp (mUpd es vk vx))⟩]⟩).h c (mUpd es vk vx) := by unfold MapAt; simp only [St.setG, Tr.get_set, if_true]
 refine w_eff hg (s' := s.setG c ⟨[⟨[], 0, some (.mp (mUpd es vk vx))⟩]⟩) (fun t ht => ?_) (k _ (hS.upd n hn (setG_keep hS.ok hm _) (fun g hg => by
   have : g = c := msi.1 hg
   exact this) (mapC c (mUpd es vk vx)) hmu fun g hg => .inl hg))
 unfold mUpd
 cases r with
 | none => simp only [evOp, hT, evY_ok ht hx, evY_ok ht hy, evY_ok ht hz, hm.entries, hko, hr]
 | some p => obtain ⟨j, u⟩ := p; simp only [evOp, hT, evY_ok ht hx, evY_ok ht hy, evY_ok ht hz, hm.entries, hko, hr]
end
end Go.Ab
namespace Go.Ab
open Go.Proofs
theorem SH.ne {s0 s : St} {L : List Chunk} {X : List Nat} {a b : Nat} {i j : Nat} {c d : Chunk} (hS : SH s0 L s X) (hij : i ≠ j) (hi : L[i]? = some c) (hj : L[j]? = some d) (ha : c.F a) (hb : d.F b) : a ≠ b := fun e => hS.dis i j c d hij hi hj a ha (e ▸ hb)
def deX (np : Nat) (seen : Bool) (i most : Int) (nm : ByteArray) (long l : Int) (n : Int) (x : Flt) : Flt :=
 tellF (tellF (tellF (tellF (tellF x (decide (i ≥ most)) ⟨74, -1, n⟩) (!nameOk nm) ⟨1, -1, n⟩) seen ⟨70, -1, n⟩) (decide (long < 1) || decide (long > 256)) ⟨1, -1, n⟩) (forN np l) ⟨10, -1, n⟩
theorem SH.lit {s0 s : St} {X : List Nat} {a b c d e : Chunk} {R : List Chunk} (h : SH s0 (a :: b :: c :: d :: e :: R) s X) : SH s0 (a :: b :: c :: d :: e :: R) s X := h
set_option maxRecDepth 10000 in
set_option maxHeartbeats 8000000 in
theorem one_ok {s0 z : St} {X : List Nat} {R : List Chunk} {pc pn pm g c n : Nat} {es : List (AV × AV)} {ns : List ByteArray} {c0 c1 c2 c3 c4 : AV} {x : Flt} {np : Nat} {i most long l : Int} {nm : ByteArray}
  (hS : SH s0 (ptC (.ptr pc 0 0) [.ptr c 0 0] :: ptC (.ptr pn 0 0) [.int .i64 (n : Nat)] :: ptC (.ptr pm 0 0) [.mp g] :: mapC g es :: ptC (.ptr c 0 0) (ckC c0 c1 c2 c3 c4 x) :: R) z X) (hn : n ≤ 33554432) (hnm : nm.size ≤ maxBytes) (hs : SeenR es ns) (hns : ns.length ≤ 33554432) (hc0 : c0.slen = some np) :
  CallS Tryz.prog Tt Kt 64 [.int .i64 i, .int .i64 most, .str nm, .int .i64 long, .int .u64 l, .ptr pc 0 0, .ptr pn 0 0, .ptr pm 0 0] z fun r z' =>
   (∃ es', SH s0 (ptC (.ptr pc 0 0) [.ptr c 0 0] :: ptC (.ptr pn 0 0) [.int .i64 ((n : Nat) + 1)] :: ptC (.ptr pm 0 0) [.mp g] :: mapC g es' :: ptC (.ptr c 0 0) (ckC c0 c1 c2 c3 c4 (deX np (decide (0 ≤ fiI ns nm)) i most nm long l (n : Nat) x)) :: R) z' X ∧ SeenR es' (ns ++ [nm])) ∧ r = .tup [] := by
 have h04 : pc ≠ c := hS.ne (i := 0) (j := 4) (by decide) rfl rfl (msi.2 rfl) (msi.2 rfl)
 have h14 : pn ≠ c := hS.ne (i := 1) (j := 4) (by decide) rfl rfl (msi.2 rfl) (msi.2 rfl)
 obtain ⟨k, hlook, hk0, hkn, hfind, hseen⟩ := seen_look hs nm (ie := ⟨.num .i64, 1, 8, [.int .i64 0], false⟩) rfl rfl
 have hkd : decide ((k : Int) > 0) = decide (0 ≤ fiI ns nm) := decide_eq_decide.2 (by rw [fiI_mem, ← hk0]; omega)
 refine call_of (fn := Tryz.f64) (nt := 53) Tryz.func64 rfl rfl rfl ?_
 refine aq0 ?_
 have hcs := (hS.bdX 4 rfl c (msi.2 rfl)).2
 refine aq0 ?_
 refine wvz (oL 0 hS) ?_
 refine aq3 ?_
 refine wvz (oL 1 hS) ?_
 refine wkz (tell_ok hS.ok (hS.pt 4 rfl)) ?_
 rintro _ z ⟨hkX, hpX, rfl⟩
 have hS := hS.upd 4 rfl hkX (fun g hg => hg) (ptC (.ptr c 0 0) (ckC c0 c1 c2 c3 c4 _)) hpX (fun g hg => .inl hg)
 have hS := SH.lit hS
 refine aq0 ?_
 have hR := Keep.refl (s := z) (by first | exact hK.ok | exact hS.ok | assumption)
 refine wc_draw (Old z [c]) (by kernel_rfl) rfl ?_
 refine wo_load hR rfl rfl ((hS.pt 0 rfl).at (nl rfl)) rfl (by simp [AV.gs, h04]) rfl rfl ?_
 refine aq1 ?_
 refine woc hR (name_ok hR.ok hnm) ?_
 rintro _ sX ⟨-, rfl⟩ hR
 refine aq1 ?_
 refine wo_load hR rfl rfl ((hS.pt 1 rfl).at (nl rfl)) rfl (by simp [AV.gs, h14]) rfl rfl ?_
 refine wo_callX hR (fun _ h => h) rfl rfl (fun _ => rfl) (op_call rfl rfl rfl rfl) (tell_ok hR.ok (Pt.bare ((hS.pt 4 rfl).keep0 hR))) (fun _ _ h => h.1) ?_
 rintro _ sX ⟨-, hpX, rfl⟩ hkX
 refine aq0 ?_
 have hS := hS.mov hR
 have hS := hS.upd 4 rfl hkX (fun g hg => hg) (ptC (.ptr c 0 0) (ckC c0 c1 c2 c3 c4 _)) hpX (fun g hg => .inl hg)
 have hS := SH.lit hS
 refine aq0 ?_
 refine wvz (oL 0 hS) ?_
 refine wvz (oL 2 hS) ?_
 refine aq1 ?_
 refine wvz (v := .int .i64 (k : Nat)) (op_lookup rfl rfl rfl rfl rfl (MapAt.entries (hS.get 3 rfl)) rfl hlook) ?_
 refine aq1 ?_
 refine wvz (oL 1 hS) ?_
 refine wkz (tell_ok hS.ok (hS.pt 4 rfl)) ?_
 rintro _ z ⟨hkX, hpX, rfl⟩
 have hS := hS.upd 4 rfl hkX (fun g hg => hg) (ptC (.ptr c 0 0) (ckC c0 c1 c2 c3 c4 _)) hpX (fun g hg => .inl hg)
 have hS := SH.lit hS
 refine aq0 ?_
 refine wvz (oL 0 hS) ?_
 refine aq3 ?_
 refine w_split (i := 35) rfl (fun h35 => ?_) (fun h35 => ?_)
 ·refine aq3 ?_
  refine wvz (oL 1 hS) ?_
  refine wkz (tell_ok hS.ok (hS.pt 4 rfl)) ?_
  rintro _ z ⟨hkX, hpX, rfl⟩
  have hS := hS.upd 4 rfl hkX (fun g hg => hg) (ptC (.ptr c 0 0) (ckC c0 c1 c2 c3 c4 _)) hpX (fun g hg => .inl hg)
  have hS := SH.lit hS
  refine aq0 ?_
  have hR := Keep.refl (s := z) (by first | exact hK.ok | exact hS.ok | assumption)
  refine wc_draw (Old z [c]) (by kernel_rfl) rfl ?_
  refine wo_load hR rfl rfl ((hS.pt 0 rfl).at (nl rfl)) rfl (by simp [AV.gs, h04]) rfl rfl ?_
  refine wo_load hR rfl rfl ((hS.pt 0 rfl).at (nl rfl)) rfl (by simp [AV.gs, h04]) rfl rfl ?_
  refine aq1 ?_
  refine woc hR (foreign_ok hR.ok (Pt.bare ((hS.pt 4 rfl).keep0 hR)) hc0) ?_
  rintro _ sX ⟨-, rfl⟩ hR
  refine wo_load hR rfl rfl ((hS.pt 1 rfl).at (nl rfl)) rfl (by simp [AV.gs, h14]) rfl rfl ?_
  refine wo_callX hR (fun _ h => h) rfl rfl (fun _ => rfl) (op_call rfl rfl rfl rfl) (tell_ok hR.ok (Pt.bare ((hS.pt 4 rfl).keep0 hR))) (fun _ _ h => h.1) ?_
  rintro _ sX ⟨-, hpX, rfl⟩ hkX
  refine aq0 ?_
  have hS := hS.mov hR
  have hS := hS.upd 4 rfl hkX (fun g hg => hg) (ptC (.ptr c 0 0) (ckC c0 c1 c2 c3 c4 _)) hpX (fun g hg => .inl hg)
  have hS := SH.lit hS
  refine aq0 ?_
  refine wvz (oL 2 hS) ?_
  refine aq1 ?_
  refine wvz (v := .int .i64 (k : Nat)) (op_lookup rfl rfl rfl rfl rfl (MapAt.entries (hS.get 3 rfl)) rfl hlook) ?_
  refine wad ?_
  refine ws_mapUpd 3 hS rfl rfl rfl rfl rfl rfl rfl rfl hfind ?_
  rintro z hS
  have hS := SH.lit hS
  refine aq0 ?_
  refine wvz (oL 1 hS) ?_
  refine wad ?_
  first | refine ws_storeL 1 hS rfl rfl rfl rfl rfl rfl rfl (nl rfl) ?_
  rintro z hS
  have hS := SH.lit hS
  refine aq0 ?_
  exact ⟨_, rfl, ⟨_, by rw [deX, ← hkd, h35]; exact hS, hseen⟩, rfl⟩
 refine aq3 ?_
 refine wvz (oL 1 hS) ?_
 refine wkz (tell_ok hS.ok (hS.pt 4 rfl)) ?_
 rintro _ z ⟨hkX, hpX, rfl⟩
 have hS := hS.upd 4 rfl hkX (fun g hg => hg) (ptC (.ptr c 0 0) (ckC c0 c1 c2 c3 c4 _)) hpX (fun g hg => .inl hg)
 have hS := SH.lit hS
 refine aq0 ?_
 have hR := Keep.refl (s := z) (by first | exact hK.ok | exact hS.ok | assumption)
 refine wc_draw (Old z [c]) (by kernel_rfl) rfl ?_
 refine wo_load hR rfl rfl ((hS.pt 0 rfl).at (nl rfl)) rfl (by simp [AV.gs, h04]) rfl rfl ?_
 refine wo_load hR rfl rfl ((hS.pt 0 rfl).at (nl rfl)) rfl (by simp [AV.gs, h04]) rfl rfl ?_
 refine aq1 ?_
 refine woc hR (foreign_ok hR.ok (Pt.bare ((hS.pt 4 rfl).keep0 hR)) hc0) ?_
 rintro _ sX ⟨-, rfl⟩ hR
 refine wo_load hR rfl rfl ((hS.pt 1 rfl).at (nl rfl)) rfl (by simp [AV.gs, h14]) rfl rfl ?_
 refine wo_callX hR (fun _ h => h) rfl rfl (fun _ => rfl) (op_call rfl rfl rfl rfl) (tell_ok hR.ok (Pt.bare ((hS.pt 4 rfl).keep0 hR))) (fun _ _ h => h.1) ?_
 rintro _ sX ⟨-, hpX, rfl⟩ hkX
 refine aq0 ?_
 have hS := hS.mov hR
 have hS := hS.upd 4 rfl hkX (fun g hg => hg) (ptC (.ptr c 0 0) (ckC c0 c1 c2 c3 c4 _)) hpX (fun g hg => .inl hg)
 have hS := SH.lit hS
 refine aq0 ?_
 refine wvz (oL 2 hS) ?_
 refine aq1 ?_
 refine wvz (v := .int .i64 (k : Nat)) (op_lookup rfl rfl rfl rfl rfl (MapAt.entries (hS.get 3 rfl)) rfl hlook) ?_
 refine wad ?_
 refine ws_mapUpd 3 hS rfl rfl rfl rfl rfl rfl rfl rfl hfind ?_
 rintro z hS
 have hS := SH.lit hS
 refine aq0 ?_
 refine wvz (oL 1 hS) ?_
 refine wad ?_
 first | refine ws_storeL 1 hS rfl rfl rfl rfl rfl rfl rfl (nl rfl) ?_
 rintro z hS
 have hS := SH.lit hS
 refine aq0 ?_
 exact ⟨_, rfl, ⟨_, by rw [deX, ← hkd, h35]; exact hS, hseen⟩, rfl⟩
end Go.Ab
namespace Go.Ab
def U64 (a : Int) : Prop := 0 ≤ a ∧ a < 18446744073709551616
def DeclL.fine (d : DeclL) : Prop := d.name.size ≤ maxBytes ∧ U64 d.label
def FunL.fine (f : FunL) : Prop := f.name.size ≤ maxBytes ∧ U64 f.level ∧ (∀ d ∈ f.params, d.fine) ∧ (∀ l ∈ f.results, U64 l) ∧ (∀ d ∈ f.vars, d.fine)
def SrcL.fine (x : SrcL) : Prop := (∀ p ∈ x.principals, p.size ≤ maxBytes) ∧ (∀ d ∈ x.globals, d.fine) ∧ (∀ d ∈ x.arrays, d.name.size ≤ maxBytes ∧ U64 d.label) ∧ (∀ d ∈ x.channels, d.fine) ∧ ∀ f ∈ x.funcs, f.fine
structure DE where
 name : ByteArray
 i : Nat
 most : Int
 long : Int
 label : Int
def esN (s : SrcL) : List DE := (s.globals.mapIdx fun i d => ⟨d.name, i, 32, 1, d.label⟩) ++ ((s.arrays.mapIdx fun i d => ⟨d.name, i, 16, d.len, d.label⟩) ++ ((s.channels.mapIdx fun i d => ⟨d.name, i, 16, 1, d.label⟩) ++ (s.funcs.mapIdx fun i d => ⟨d.name, i, 32, 1, 0⟩)))
theorem esN_len (s : SrcL) : (esN s).length = s.globals.length + s.arrays.length + s.channels.length + s.funcs.length := by
 simp [esN]; omega
section
variable {s : SrcL} {i : Nat}
theorem esN_g {d : DeclL} (h : s.globals[i]? = some d) : (esN s)[i]? = some ⟨d.name, i, 32, 1, d.label⟩ := by
 have hl := (ges.1 h).1
 rw [esN, gal (by simpa using hl), List.getElem?_mapIdx, h]; rfl
theorem esN_a {d : ArrD} (h : s.arrays[i]? = some d) : (esN s)[s.globals.length + i]? = some ⟨d.name, i, 16, d.len, d.label⟩ := by
 have hl := (ges.1 h).1
 rw [esN, gar (by simp), List.length_mapIdx, Nat.add_sub_cancel_left, gal (by simpa using hl), List.getElem?_mapIdx, h]; rfl
theorem esN_c {d : DeclL} (h : s.channels[i]? = some d) : (esN s)[s.globals.length + s.arrays.length + i]? = some ⟨d.name, i, 16, 1, d.label⟩ := by
 have hl := (ges.1 h).1
 rw [esN, gar (by simp; omega), List.length_mapIdx, gar (by simp; omega), List.length_mapIdx, show s.globals.length + s.arrays.length + i - s.globals.length - s.arrays.length = i by omega, gal (by simpa using hl), List.getElem?_mapIdx, h]; rfl
theorem esN_f {d : FunL} (h : s.funcs[i]? = some d) : (esN s)[s.globals.length + s.arrays.length + s.channels.length + i]? = some ⟨d.name, i, 32, 1, 0⟩ := by
 have hl := (ges.1 h).1
 rw [esN, gar (by simp; omega), List.length_mapIdx, gar (by simp; omega), List.length_mapIdx, gar (by simp; omega), List.length_mapIdx, show s.globals.length + s.arrays.length + s.channels.length + i - s.globals.length - s.arrays.length - s.channels.length = i by omega, List.getElem?_mapIdx, h]; rfl
end
def prT (s : SrcL) (i : Nat) : List (Bool × Flt) := match s.principals[i]? with
 | none => []
 | some p => [(decide ((i : Int) ≥ 64), ⟨74, -1, i⟩), (!nameOk p, ⟨1, -1, i⟩), (decide (0 ≤ fiI (s.principals.take i) p), ⟨70, -1, i⟩)]
def deT (s : SrcL) (j : Nat) : List (Bool × Flt) := match (esN s)[j]? with
 | none => []
 | some e => [(decide ((e.i : Int) ≥ e.most), ⟨74, -1, (s.principals.length + j : Nat)⟩), (!nameOk e.name, ⟨1, -1, (s.principals.length + j : Nat)⟩), (decide (0 ≤ fiI (((esN s).take j).map DE.name) e.name), ⟨70, -1, (s.principals.length + j : Nat)⟩),
   (decide (e.long < 1) || decide (e.long > 256), ⟨1, -1, (s.principals.length + j : Nat)⟩), (forN s.principals.length e.label, ⟨10, -1, (s.principals.length + j : Nat)⟩)]
def declP (s : SrcL) (k : Nat) : List (Bool × Flt) := (List.range k).flatMap (prT s)
def declE (s : SrcL) (k : Nat) : List (Bool × Flt) := (List.range k).flatMap (deT s)
def declL (s : SrcL) : List (Bool × Flt) := declP s s.principals.length ++ declE s (esN s).length
theorem range_flat {β : Type} (g : Nat → List β) (k : Nat) : (List.range (k + 1)).flatMap g = (List.range k).flatMap g ++ g k := by
 rw [List.range_succ, List.flatMap_append]; simp
theorem good_pr (s : SrcL) (i : Nat) : GoodF (prT s i) := by
 unfold prT
 split
 ·exact GoodF.nil
 ·intro p hp
  simp only [List.mem_cons, nmn, or_false] at hp
  rcases hp with rfl | rfl | rfl <;> simp
theorem good_de (s : SrcL) (i : Nat) : GoodF (deT s i) := by
 unfold deT
 split
 ·exact GoodF.nil
 ·intro p hp
  simp only [List.mem_cons, nmn, or_false] at hp
  rcases hp with rfl | rfl | rfl | rfl | rfl <;> simp
theorem good_declP (s : SrcL) (k : Nat) : GoodF (declP s k) := GoodF.flat fun i _ => good_pr s i
theorem good_declE (s : SrcL) (k : Nat) : GoodF (declE s k) := GoodF.flat fun i _ => good_de s i
theorem good_declL (s : SrcL) : GoodF (declL s) := (good_declP s _).app (good_declE s _)
theorem firstF_tells : ∀ {r l : List (Bool × Flt)}, GoodF l → GoodF r → r.foldl (fun x p => tellF x p.1 p.2) (firstF l) = firstF (l ++ r)
 | [], l, _, _ => by simp
 | (b, y) :: r, l, hl, hr => by
  have h1 : GoodF (l ++ [(b, y)]) := hl.app fun p hp => hr p (by rw [msi.1 hp]; exact mcs ..)
  rw [fcc]
  have : tellF (firstF l) (b, y).1 (b, y).2 = firstF (l ++ [(b, y)]) := (firstF_tell hl).symm
  rw [this, firstF_tells h1 fun p hp => hr p (List.mem_cons_of_mem _ hp), aas]
  rfl
theorem pr_step {s : SrcL} {i : Nat} {p : ByteArray} (h : s.principals[i]? = some p) :
  tellF (tellF (tellF (firstF (declP s i)) (decide ((i : Int) ≥ 64)) ⟨74, -1, i⟩) (!nameOk p) ⟨1, -1, i⟩) (decide (0 ≤ fiI (s.principals.take i) p)) ⟨70, -1, i⟩ = firstF (declP s (i + 1)) := by
 have e : declP s (i + 1) = declP s i ++ prT s i := range_flat _ _
 rw [e, ← firstF_tells (good_declP s i) (good_pr s i)]
 unfold prT
 rw [h]
 rfl
theorem de_step {s : SrcL} {j : Nat} {e : DE} (h : (esN s)[j]? = some e) :
  deX s.principals.length (decide (0 ≤ fiI (((esN s).take j).map DE.name) e.name)) e.i e.most e.name e.long e.label (s.principals.length + j : Nat) (firstF (declP s s.principals.length ++ declE s j)) = firstF (declP s s.principals.length ++ declE s (j + 1)) := by
 have e1 : declE s (j + 1) = declE s j ++ deT s j := range_flat _ _
 rw [e1, ← aas, ← firstF_tells ((good_declP s _).app (good_declE s j)) (good_de s j)]
 unfold deT
 rw [h]
 rfl
end Go.Ab
namespace Go.Ab
open Go.Proofs
section
variable {P : Program} {T : Tab} {K : Kn} {nt : NT} {ops : Array Oper} {rest : List Oper} {m : Sy} {s s0 : St} {Q : Sy → St → Prop} {d ty : Nat} {pos : String} {af : Array Edge} {g : Option (Nat × Bool)} {L : List Chunk} {X : List Nat}
theorem ws_makeMap {tt kt et : TypeId} {i : TI} (hS : SH s0 L s X) (hg : guardY ops m g = some true) (hd : Nat.ble (d + 1) nt.n = true) (hT : T tt = some i) (hs : i.sh = .map kt et)
  (k : ∀ g0 z, SH s0 (L ++ [mapC g0 []]) z X → W P T K nt ops rest ((d, .mp g0) :: m) z Q) : W P T K nt ops (⟨some d, .makeMap tt none, ty, pos, af, g⟩ :: rest) m s Q :=
 w_makeMap hg hd hT hs hS.ok fun z hm hk hc => k _ z (hS.add hk (mapC _ []) hm fun x hx => by
   have hx : x = s.ctr := hx
   subst hx; omega)
end
theorem RowP.nptr {sz : Nat} {v : AV} {css : List (List AV)} (k : RowP sz v css) : ∀ g j o, v ≠ .ptr g j o := by
 intro g j o e
 subst e
 exact k.elim
theorem names_next {x : SrcL} {j : Nat} {e : DE} (h : (esN x)[j]? = some e) : ((esN x).take (j + 1)).map DE.name = ((esN x).take j).map DE.name ++ [e.name] := by
 rw [← take_snoc h, List.map_append]; rfl
set_option maxRecDepth 10000 in
set_option maxHeartbeats 8000000 in
theorem declarations_ok {s : St} {c : Nat} {vp vg va vc vf : AV} {x : SrcL} (hok : s.Ok) (hx : x.small) (hfi : x.fine) (hv : SrcP x [vp, vg, va, vc, vf]) (hp : Pt s.h (.ptr c 0 0) (ckC vp vg va vc vf ⟨0, 0, 0⟩)) :
  CallS Tryz.prog Tt Kt 29 [.ptr c 0 0] s fun r s' => Keep [c] s s' ∧ Pt s'.h (.ptr c 0 0) (ckC vp vg va vc vf (firstF (declL x))) ∧ r = .tup [] := by
 have hel := esN_len x
 obtain ⟨_, _, _, _, _, e0, hvp, hvg, hva, hvc, csf, hrf, hlf, hF⟩ := id hv
 cases e0
 obtain ⟨hl1, hl2, hl3, hl4, hl5, hsm⟩ := id hx
 have hsf : vf.slen = some x.funcs.length := by rw [hrf.slen, hlf]
 obtain ⟨hf1, hf2, hf3, hf4, hf5⟩ := id hfi
 refine call_of (fn := Tryz.f29) (nt := 130) Tryz.func29 rfl rfl rfl ?_
 refine aq0 ?_
 have hS := SH.startX hok hp
 have hS : SH s [ptC (.ptr c 0 0) (ckC vp vg va vc vf ⟨0, 0, 0⟩)] s [c] := hS
 refine ws_box hS rfl rfl rfl rfl ?_
 rintro p1 z hS hk
 have hS : SH _ [_, _] z _ := hS
 refine aq0 ?_
 refine ws_alloc hS rfl rfl rfl rfl ?_
 rintro p2 z hS hk
 have hS : SH _ [_, _, _] z _ := hS
 refine ws_storeL 2 hS rfl rfl rfl rfl rfl rfl (by rfl) (nl rfl) ?_
 rintro z hS
 have hS : SH _ [_, _, _] z _ := hS
 refine aq0 ?_
 refine wvz (oL 1 hS) ?_
 refine aq3 ?_
 refine wvz (v := vp) (oL 0 hS) ?_
 refine wvz (op_len rfl rfl rfl rfl rfl (RowP.slen hvp |>.trans (by rw [lmm]))) ?_
 refine aq1 ?_
 refine wc_loop_at (fun jj m z => ∃ i : Nat, jj = x.principals.length - i ∧ i ≤ x.principals.length ∧ m = [(1, .ptr p1 0 0), (2, .ptr p2 0 0), (19, vp), (20, .int .i64 (x.principals.length : Nat)), (21, .int .i64 (i : Nat))] ∧ SH s [ptC (.ptr c 0 0) (ckC vp vg va vc vf (firstF (declP x i))), ptC (.ptr p1 0 0) [.ptr c 0 0], ptC (.ptr p2 0 0) [.int .i64 (i : Nat)]] z [c]) x.principals.length
  [(1, .ptr p1 0 0), (2, .ptr p2 0 0), (19, vp), (20, .int .i64 (x.principals.length : Nat)), (21, .int .i64 ((0 : Nat) : Int))] (scn rfl (scn rfl (scn rfl (scn rfl (scn rfl (Sub.nil _)))))) ⟨0, by simp, by simp, rfl, hS⟩ ?_
 clear hS
 rintro jj m z ⟨i, rfl, hi, rfl, hS⟩
 refine aq1 ?_
 refine wcd (fun h22 => ?_) (fun h22 => ?_)
 ·have h10 : p1 ≠ c := hS.ne (i := 1) (j := 0) (by decide) rfl rfl (msi.2 rfl) (msi.2 rfl)
  have h20 : p2 ≠ c := hS.ne (i := 2) (j := 0) (by decide) rfl rfl (msi.2 rfl) (msi.2 rfl)
  have hcs := (hS.bdX 0 rfl c (msi.2 rfl)).2
  refine aq0 ?_
  obtain ⟨p, hpi⟩ : ∃ p, x.principals[i]? = some p := ⟨_, gee (by omega)⟩
  have hps := hf1 p (mog hpi)
  refine aq1 ?_
  refine wvz (oJ (RowP.up hvp _)) ?_
  refine wvz (oM (Row.mk_pt (RowP.up hvp _) hpi)) ?_
  refine aq2 ?_
  refine wvz (oL 1 hS) ?_
  refine aq2 ?_
  refine wvz (oL 2 hS) ?_
  refine wkz (tell_ok hS.ok (hS.pt 0 rfl)) ?_
  rintro _ z ⟨hkX, hpX, rfl⟩
  have hS := hS.upd 0 rfl hkX (fun g hg => hg) (ptC (.ptr c 0 0) (ckC vp vg va vc vf _)) hpX (fun g hg => .inl hg)
  have hS : SH _ [_, _, _] z _ := hS
  refine aq0 ?_
  have hR := Keep.refl (s := z) (hS.ok)
  refine wc_draw (Old z [c]) (by kernel_rfl) rfl ?_
  refine wo_load hR rfl rfl ((hS.pt 1 rfl).at (nl rfl)) rfl (by simp [AV.gs, h10]) rfl rfl ?_
  refine aq1 ?_
  refine woc hR (name_ok hR.ok hps) ?_
  rintro _ sA ⟨-, rfl⟩ hR
  refine aq1 ?_
  refine wo_load hR rfl rfl ((hS.pt 2 rfl).at (nl rfl)) rfl (by simp [AV.gs, h20]) rfl rfl ?_
  refine wo_callX hR (fun _ h => h) rfl rfl (fun _ => rfl) (op_call rfl rfl rfl rfl) (tell_ok hR.ok (Pt.bare ((hS.pt 0 rfl).keep0 hR))) (fun _ _ h => h.1) ?_
  rintro _ sB ⟨-, hpX, rfl⟩ hkX
  refine aq0 ?_
  have hS := hS.mov hR
  have hS := hS.upd 0 rfl hkX (fun g hg => hg) (ptC (.ptr c 0 0) (ckC vp vg va vc vf _)) hpX (fun g hg => .inl hg)
  generalize sB.join ⟨sA.ctr, z.h, sA.wr ++ z.wr⟩ = z at hS ⊢
  have hS : SH _ [_, _, _] z _ := hS
  refine aq0 ?_
  have hR := Keep.refl (s := z) (hS.ok)
  refine wc_draw (Old z [c]) (by kernel_rfl) rfl ?_
  refine wo_load hR rfl rfl ((hS.pt 1 rfl).at (nl rfl)) rfl (by simp [AV.gs, h10]) rfl rfl ?_
  refine wo_load hR rfl rfl ((hS.pt 1 rfl).at (nl rfl)) rfl (by simp [AV.gs, h10]) rfl rfl ?_
  refine aq3 ?_
  refine wo_loadO rfl rfl ((hS.pt 0 rfl).at (o := 0) (Nat.zero_le _)) (v := vp) rfl rfl rfl ?_
  have hcut : RowP 1 (cutA vp 0 i) ((x.principals.take i).map sC) := Row.cutF hvp hi
  refine aq1 ?_
  refine wo_slice rfl (RowP.nptr hvp) rfl rfl (op_cut (l := none) (h := some i) (l' := 0) (h' := i) rfl rfl (optY_some rfl (natA_cast _ _)) rfl rfl rfl rfl (RowP.up hvp _) rfl rfl (Nat.zero_le _) (by rw [lmm]; exact hi)) ?_
  refine aq1 ?_
  refine wo_call0 hR rfl rfl (fun _ => rfl) (op_call rfl rfl rfl rfl) (containsS_ok hR.ok (by rw [List.length_take]; omega) hcut) (fun _ _ h => h.1) (by rintro _ _ ⟨-, rfl⟩; rfl) ?_
  rintro _ sA ⟨-, rfl⟩ hR
  refine wo_load hR rfl rfl ((hS.pt 2 rfl).at (nl rfl)) rfl (by simp [AV.gs, h20]) rfl rfl ?_
  refine wo_callX hR (fun _ h => h) rfl rfl (fun _ => rfl) (op_call rfl rfl rfl rfl) (tell_ok hR.ok (Pt.bare ((hS.pt 0 rfl).keep0 hR))) (fun _ _ h => h.1) ?_
  rintro _ sB ⟨-, hpX, rfl⟩ hkX
  refine aq0 ?_
  have hS := hS.mov hR
  have hS := hS.upd 0 rfl hkX (fun g hg => hg) (ptC (.ptr c 0 0) (ckC vp vg va vc vf _)) hpX (fun g hg => .inl hg)
  generalize sB.join ⟨sA.ctr, z.h, sA.wr ++ z.wr⟩ = z at hS ⊢
  have hS : SH _ [_, _, _] z _ := hS
  refine aq0 ?_
  refine wvz (oL 2 hS) ?_
  refine wad ?_
  refine ws_storeL 2 hS rfl rfl rfl rfl rfl rfl (by rfl) (nl rfl) ?_
  rintro z hS
  have hS : SH _ [_, _, _] z _ := hS
  refine aq0 ?_
  refine wad ?_
  refine aq1 ?_
  have hS : SH s [ptC (.ptr c 0 0) (ckC vp vg va vc vf (firstF (declP x (i + 1)))), ptC (.ptr p1 0 0) [.ptr c 0 0], ptC (.ptr p2 0 0) [.int .i64 ((i + 1 : Nat) : Int)]] z [c] := by rw [← pr_step hpi]; exact hS
  exact rn ⟨i + 1, rfl, by omega, rfl, hS⟩
 obtain rfl : i = x.principals.length := by omega
 refine aq0 ?_
 refine ws_makeMap hS rfl rfl rfl rfl ?_
 rintro g0 z hS
 have hS : SH _ [_, _, _, _] z _ := hS
 refine ws_alloc hS rfl rfl rfl rfl ?_
 rintro pm z hS hk
 have hS : SH _ [_, _, _, _, _] z _ := hS
 refine ws_storeL 4 hS rfl rfl rfl rfl rfl rfl (by rfl) (nl rfl) ?_
 rintro z hS
 have hS : SH _ [_, _, _, _, _] z _ := hS
 have hK := hS.K
 refine aq2 ?_
 have hS : SH s [ptC (.ptr p1 0 0) [.ptr c 0 0], ptC (.ptr p2 0 0) [.int .i64 ((x.principals.length + (0) : Nat) : Int)], ptC (.ptr pm 0 0) [.mp g0], mapC g0 [], ptC (.ptr c 0 0) (ckC vp vg va vc vf (firstF (declP x x.principals.length ++ declE x (0))))] z [c] := by
  have h0 : declE x 0 = [] := rfl
  rw [h0, List.append_nil]
  exact hS.sel [1, 2, 4, 3, 0] rfl (by decide)
 have hs := SeenR.nil
 have hse : SeenR [] (((esN x).take 0).map DE.name) := SeenR.nil
 refine aq0 ?_
 refine wvz (oL 0 hS) ?_
 refine aq3 ?_
 refine wvz (v := vg) (oL 4 hS) ?_
 refine wvz (v := .int .i64 (x.globals.length : Nat)) (op_len rfl rfl rfl rfl rfl (RowP.slen hvg |>.trans (by rw [lmm]))) ?_
 refine aq1 ?_
 refine wc_loop_at (fun jj m z => ∃ (i : Nat) (es : List (AV × AV)), jj = x.globals.length - i ∧ i ≤ x.globals.length ∧ m = [(1, .ptr p1 0 0), (6, .fn 64 [.ptr p1 0 0, .ptr p2 0 0, .ptr pm 0 0]), (58, vg), (59, .int .i64 (x.globals.length : Nat)), (60, .int .i64 (i : Nat))] ∧ SH s [ptC (.ptr p1 0 0) [.ptr c 0 0], ptC (.ptr p2 0 0) [.int .i64 ((x.principals.length + (i) : Nat) : Int)], ptC (.ptr pm 0 0) [.mp g0], mapC g0 es, ptC (.ptr c 0 0) (ckC vp vg va vc vf (firstF (declP x x.principals.length ++ declE x (i))))] z [c] ∧ SeenR es (((esN x).take (i)).map DE.name)) x.globals.length
  [(1, .ptr p1 0 0), (6, .fn 64 [.ptr p1 0 0, .ptr p2 0 0, .ptr pm 0 0]), (58, vg), (59, .int .i64 (x.globals.length : Nat)), (60, .int .i64 ((0 : Nat) : Int))] (scn rfl (scn rfl (scn rfl (scn rfl (scn rfl (Sub.nil _)))))) ⟨0, _, by simp, by simp, rfl, hS, hse⟩ ?_
 clear hS hse
 rintro jj m z ⟨i, es, rfl, hi, rfl, hS, hse⟩
 refine aq1 ?_
 refine wcd (fun h61 => ?_) (fun h61 => ?_)
 ·refine aq0 ?_
  obtain ⟨d, hd⟩ : ∃ d, x.globals[i]? = some d := ⟨_, gee (by omega)⟩
  have hfd := hf2 d (mog hd)
  refine aq1 ?_
  refine wvz (oJ (RowP.up hvg _)) ?_
  refine wvz (oM (Row.mk_pt (RowP.up hvg z.h) hd)) ?_
  refine ws_alloc hS rfl rfl rfl rfl ?_
  rintro p5 z hS hk
  have hS : SH _ [_, _, _, _, _, _] z _ := hS
  refine aq1 ?_
  refine ws_store 5 hS rfl rfl rfl rfl rfl rfl (by rfl) (nl rfl) ?_
  rintro z hS
  have hS : SH _ [_, _, _, _, _, _] z _ := hS
  refine aq3 ?_
  refine wvz (oL 5 hS) ?_
  refine aq1 ?_
  refine wvz (oL 5 hS) ?_
  refine w_call rfl rfl (op_call rfl rfl rfl rfl) (one_ok (R := [_]) hS (by omega) hfd.1 hse (by rw [lmm, List.length_take]; omega) (by have := RowP.slen hvp; rwa [lmm] at this)) ?_
  rintro _ z ⟨⟨es', hS, hse'⟩, rfl⟩
  have hst := de_step (esN_g hd)
  dsimp only at hst
  have hS : SH s [ptC (.ptr p1 0 0) [.ptr c 0 0], ptC (.ptr p2 0 0) [.int .i64 ((x.principals.length + ((i) + 1) : Nat) : Int)], ptC (.ptr pm 0 0) [.mp g0], mapC g0 es', ptC (.ptr c 0 0) (ckC vp vg va vc vf (firstF (declP x x.principals.length ++ declE x ((i) + 1))))] z [c] := by rw [← hst]; exact hS.sel [0, 1, 2, 3, 4] rfl (by decide)
  have hse : SeenR es' (((esN x).take ((i) + 1)).map DE.name) := by rw [names_next (esN_g hd)]; exact hse'
  refine aq0 ?_
  refine wad ?_
  refine aq1 ?_
  exact rn ⟨i + 1, _, rfl, by omega, rfl, hS, hse⟩
 obtain rfl : i = x.globals.length := by omega
 refine aq0 ?_
 refine wvz (oL 0 hS) ?_
 refine aq3 ?_
 refine wvz (v := va) (oL 4 hS) ?_
 refine wvz (v := .int .i64 (x.arrays.length : Nat)) (op_len rfl rfl rfl rfl rfl (RowP.slen hva |>.trans (by rw [lmm]))) ?_
 refine aq1 ?_
 refine wc_loop_at (fun jj m z => ∃ (i : Nat) (es : List (AV × AV)), jj = x.arrays.length - i ∧ i ≤ x.arrays.length ∧ m = [(1, .ptr p1 0 0), (6, .fn 64 [.ptr p1 0 0, .ptr p2 0 0, .ptr pm 0 0]), (77, va), (78, .int .i64 (x.arrays.length : Nat)), (79, .int .i64 (i : Nat))] ∧ SH s [ptC (.ptr p1 0 0) [.ptr c 0 0], ptC (.ptr p2 0 0) [.int .i64 ((x.principals.length + (x.globals.length + i) : Nat) : Int)], ptC (.ptr pm 0 0) [.mp g0], mapC g0 es, ptC (.ptr c 0 0) (ckC vp vg va vc vf (firstF (declP x x.principals.length ++ declE x (x.globals.length + i))))] z [c] ∧ SeenR es (((esN x).take (x.globals.length + i)).map DE.name)) x.arrays.length
  [(1, .ptr p1 0 0), (6, .fn 64 [.ptr p1 0 0, .ptr p2 0 0, .ptr pm 0 0]), (77, va), (78, .int .i64 (x.arrays.length : Nat)), (79, .int .i64 ((0 : Nat) : Int))] (scn rfl (scn rfl (scn rfl (scn rfl (scn rfl (Sub.nil _)))))) ⟨0, _, by simp, by simp, rfl, hS, hse⟩ ?_
 clear hS hse
 rintro jj m z ⟨i, es, rfl, hi, rfl, hS, hse⟩
 refine aq1 ?_
 refine wcd (fun h80 => ?_) (fun h80 => ?_)
 ·refine aq0 ?_
  obtain ⟨d, hd⟩ : ∃ d, x.arrays[i]? = some d := ⟨_, gee (by omega)⟩
  have hfd := hf3 d (mog hd)
  refine aq1 ?_
  refine wvz (oJ (RowP.up hva _)) ?_
  refine wvz (oM (Row.mk_pt (RowP.up hva z.h) hd)) ?_
  refine ws_alloc hS rfl rfl rfl rfl ?_
  rintro p5 z hS hk
  have hS : SH _ [_, _, _, _, _, _] z _ := hS
  refine aq1 ?_
  refine ws_store 5 hS rfl rfl rfl rfl rfl rfl (by rfl) (nl rfl) ?_
  rintro z hS
  have hS : SH _ [_, _, _, _, _, _] z _ := hS
  refine aq3 ?_
  refine wvz (oL 5 hS) ?_
  refine aq1 ?_
  refine wvz (oL 5 hS) ?_
  refine aq1 ?_
  refine wvz (oL 5 hS) ?_
  refine w_call rfl rfl (op_call rfl rfl rfl rfl) (one_ok (R := [_]) hS (by omega) hfd.1 hse (by rw [lmm, List.length_take]; omega) (by have := RowP.slen hvp; rwa [lmm] at this)) ?_
  rintro _ z ⟨⟨es', hS, hse'⟩, rfl⟩
  have hst := de_step (esN_a hd)
  dsimp only at hst
  have hS : SH s [ptC (.ptr p1 0 0) [.ptr c 0 0], ptC (.ptr p2 0 0) [.int .i64 ((x.principals.length + ((x.globals.length + i) + 1) : Nat) : Int)], ptC (.ptr pm 0 0) [.mp g0], mapC g0 es', ptC (.ptr c 0 0) (ckC vp vg va vc vf (firstF (declP x x.principals.length ++ declE x ((x.globals.length + i) + 1))))] z [c] := by rw [← hst]; exact hS.sel [0, 1, 2, 3, 4] rfl (by decide)
  have hse : SeenR es' (((esN x).take ((x.globals.length + i) + 1)).map DE.name) := by rw [names_next (esN_a hd)]; exact hse'
  refine aq0 ?_
  refine wad ?_
  refine aq1 ?_
  exact rn ⟨i + 1, _, rfl, by omega, rfl, hS, hse⟩
 obtain rfl : i = x.arrays.length := by omega
 refine aq0 ?_
 refine wvz (oL 0 hS) ?_
 refine aq3 ?_
 refine wvz (v := vc) (oL 4 hS) ?_
 refine wvz (v := .int .i64 (x.channels.length : Nat)) (op_len rfl rfl rfl rfl rfl (RowP.slen hvc |>.trans (by rw [lmm]))) ?_
 refine aq1 ?_
 refine wc_loop_at (fun jj m z => ∃ (i : Nat) (es : List (AV × AV)), jj = x.channels.length - i ∧ i ≤ x.channels.length ∧ m = [(1, .ptr p1 0 0), (6, .fn 64 [.ptr p1 0 0, .ptr p2 0 0, .ptr pm 0 0]), (98, vc), (99, .int .i64 (x.channels.length : Nat)), (100, .int .i64 (i : Nat))] ∧ SH s [ptC (.ptr p1 0 0) [.ptr c 0 0], ptC (.ptr p2 0 0) [.int .i64 ((x.principals.length + (x.globals.length + x.arrays.length + i) : Nat) : Int)], ptC (.ptr pm 0 0) [.mp g0], mapC g0 es, ptC (.ptr c 0 0) (ckC vp vg va vc vf (firstF (declP x x.principals.length ++ declE x (x.globals.length + x.arrays.length + i))))] z [c] ∧ SeenR es (((esN x).take (x.globals.length + x.arrays.length + i)).map DE.name)) x.channels.length
  [(1, .ptr p1 0 0), (6, .fn 64 [.ptr p1 0 0, .ptr p2 0 0, .ptr pm 0 0]), (98, vc), (99, .int .i64 (x.channels.length : Nat)), (100, .int .i64 ((0 : Nat) : Int))] (scn rfl (scn rfl (scn rfl (scn rfl (scn rfl (Sub.nil _)))))) ⟨0, _, by simp, by simp, rfl, hS, hse⟩ ?_
 clear hS hse
 rintro jj m z ⟨i, es, rfl, hi, rfl, hS, hse⟩
 refine aq1 ?_
 refine wcd (fun h101 => ?_) (fun h101 => ?_)
 ·refine aq0 ?_
  obtain ⟨d, hd⟩ : ∃ d, x.channels[i]? = some d := ⟨_, gee (by omega)⟩
  have hfd := hf4 d (mog hd)
  refine aq1 ?_
  refine wvz (oJ (RowP.up hvc _)) ?_
  refine wvz (oM (Row.mk_pt (RowP.up hvc z.h) hd)) ?_
  refine ws_alloc hS rfl rfl rfl rfl ?_
  rintro p5 z hS hk
  have hS : SH _ [_, _, _, _, _, _] z _ := hS
  refine aq1 ?_
  refine ws_store 5 hS rfl rfl rfl rfl rfl rfl (by rfl) (nl rfl) ?_
  rintro z hS
  have hS : SH _ [_, _, _, _, _, _] z _ := hS
  refine aq3 ?_
  refine wvz (oL 5 hS) ?_
  refine aq1 ?_
  refine wvz (oL 5 hS) ?_
  refine w_call rfl rfl (op_call rfl rfl rfl rfl) (one_ok (R := [_]) hS (by omega) hfd.1 hse (by rw [lmm, List.length_take]; omega) (by have := RowP.slen hvp; rwa [lmm] at this)) ?_
  rintro _ z ⟨⟨es', hS, hse'⟩, rfl⟩
  have hst := de_step (esN_c hd)
  dsimp only at hst
  have hS : SH s [ptC (.ptr p1 0 0) [.ptr c 0 0], ptC (.ptr p2 0 0) [.int .i64 ((x.principals.length + ((x.globals.length + x.arrays.length + i) + 1) : Nat) : Int)], ptC (.ptr pm 0 0) [.mp g0], mapC g0 es', ptC (.ptr c 0 0) (ckC vp vg va vc vf (firstF (declP x x.principals.length ++ declE x ((x.globals.length + x.arrays.length + i) + 1))))] z [c] := by rw [← hst]; exact hS.sel [0, 1, 2, 3, 4] rfl (by decide)
  have hse : SeenR es' (((esN x).take ((x.globals.length + x.arrays.length + i) + 1)).map DE.name) := by rw [names_next (esN_c hd)]; exact hse'
  refine aq0 ?_
  refine wad ?_
  refine aq1 ?_
  exact rn ⟨i + 1, _, rfl, by omega, rfl, hS, hse⟩
 obtain rfl : i = x.channels.length := by omega
 refine aq0 ?_
 refine wvz (oL 0 hS) ?_
 refine aq3 ?_
 refine wvz (v := vf) (oL 4 hS) ?_
 refine wvz (v := .int .i64 (x.funcs.length : Nat)) (oN hsf) ?_
 refine aq1 ?_
 refine wc_loop_at (fun jj m z => ∃ (i : Nat) (es : List (AV × AV)), jj = x.funcs.length - i ∧ i ≤ x.funcs.length ∧ m = [(1, .ptr p1 0 0), (6, .fn 64 [.ptr p1 0 0, .ptr p2 0 0, .ptr pm 0 0]), (117, vf), (118, .int .i64 (x.funcs.length : Nat)), (119, .int .i64 (i : Nat))] ∧ SH s [ptC (.ptr p1 0 0) [.ptr c 0 0], ptC (.ptr p2 0 0) [.int .i64 ((x.principals.length + (x.globals.length + x.arrays.length + x.channels.length + i) : Nat) : Int)], ptC (.ptr pm 0 0) [.mp g0], mapC g0 es, ptC (.ptr c 0 0) (ckC vp vg va vc vf (firstF (declP x x.principals.length ++ declE x (x.globals.length + x.arrays.length + x.channels.length + i))))] z [c] ∧ SeenR es (((esN x).take (x.globals.length + x.arrays.length + x.channels.length + i)).map DE.name)) x.funcs.length
  [(1, .ptr p1 0 0), (6, .fn 64 [.ptr p1 0 0, .ptr p2 0 0, .ptr pm 0 0]), (117, vf), (118, .int .i64 (x.funcs.length : Nat)), (119, .int .i64 ((0 : Nat) : Int))] (scn rfl (scn rfl (scn rfl (scn rfl (scn rfl (Sub.nil _)))))) ⟨0, _, by simp, by simp, rfl, hS, hse⟩ ?_
 clear hS hse
 rintro jj m z ⟨i, es, rfl, hi, rfl, hS, hse⟩
 refine aq1 ?_
 refine wcd (fun h120 => ?_) (fun h120 => ?_)
 ·refine aq0 ?_
  obtain ⟨d, hd⟩ : ∃ d, x.funcs[i]? = some d := ⟨_, gee (by omega)⟩
  have hfd := hf5 d (mog hd)
  obtain ⟨cy, hcy⟩ : ∃ c, csf[i]? = some c := ⟨_, gee (by omega)⟩
  obtain ⟨yp, yr, yv, yb, rfl, hyp, hyr, hyv, hyb⟩ := hF i d cy hd hcy
  have hzy : ([.str d.name, .int .u64 d.level, yp, yr, yv, yb] : List AV).all AV.leaf = true := by
   obtain ⟨css, h5, -⟩ := id hyb
   simp only [List.all_cons, List.all_nil, hyp.leaf, hyr.leaf, hyv.leaf, h5.leaf]; rfl
  refine aq1 ?_
  refine wvz (oI (RowP.up hrf _)) ?_
  refine wvz (oM (Row.pt (RowP.up hrf z.h) hcy)) ?_
  refine ws_alloc hS rfl rfl rfl rfl ?_
  rintro p5 z hS hk
  have hS : SH _ [_, _, _, _, _, _] z _ := hS
  have hK := hS.K
  refine aq1 ?_
  refine ws_store 5 hS rfl rfl rfl rfl rfl rfl (by assumption) (nl rfl) ?_
  rintro z hS
  have hS : SH _ [_, _, _, _, _, _] z _ := hS
  refine aq3 ?_
  refine wvz (oL 5 hS) ?_
  refine w_call rfl rfl (op_call rfl rfl rfl rfl) (one_ok (R := [_]) hS (by omega) hfd.1 hse (by rw [lmm, List.length_take]; omega) (by have := RowP.slen hvp; rwa [lmm] at this)) ?_
  rintro _ z ⟨⟨es', hS, hse'⟩, rfl⟩
  have hst := de_step (esN_f hd)
  dsimp only at hst
  have hS : SH s [ptC (.ptr p1 0 0) [.ptr c 0 0], ptC (.ptr p2 0 0) [.int .i64 ((x.principals.length + ((x.globals.length + x.arrays.length + x.channels.length + i) + 1) : Nat) : Int)], ptC (.ptr pm 0 0) [.mp g0], mapC g0 es', ptC (.ptr c 0 0) (ckC vp vg va vc vf (firstF (declP x x.principals.length ++ declE x ((x.globals.length + x.arrays.length + x.channels.length + i) + 1))))] z [c] := by rw [← hst]; exact hS.sel [0, 1, 2, 3, 4] rfl (by decide)
  have hse : SeenR es' (((esN x).take ((x.globals.length + x.arrays.length + x.channels.length + i) + 1)).map DE.name) := by rw [names_next (esN_f hd)]; exact hse'
  refine aq0 ?_
  refine wad ?_
  refine aq1 ?_
  exact rn ⟨i + 1, _, rfl, by omega, rfl, hS, hse⟩
 obtain rfl : i = x.funcs.length := by omega
 refine aq0 ?_
 have hpc := hS.pt 4 rfl
 rw [← esN_len] at hpc
 exact ⟨_, rfl, hS.K, hpc, rfl⟩
-- unused hook: lf29.3
end Go.Ab
namespace Go.Ab
open Go.Proofs
def ckP (c : Nat) (vp vg va vc vf : AV) (x : Flt) : Chunk := ptC (.ptr c 0 0) (ckC vp vg va vc vf x)
theorem tell_sh {s0 z : St} {X : List Nat} {R : List Chunk} {c : Nat} {vp vg va vc vf : AV} {x : Flt} {b : Bool} {e f a : Int} (hS : SH s0 (ckP c vp vg va vc vf x :: R) z X) :
  CallS Tryz.prog Tt Kt 61 [.ptr c 0 0, .bool b, .int .i64 e, .int .i64 f, .int .i64 a] z fun r z' => SH s0 (ckP c vp vg va vc vf (tellF x b ⟨e, f, a⟩) :: R) z' X ∧ r = .tup [] :=
 (tell_ok hS.ok (hS.pt 0 rfl)).mono fun _r _z' ⟨hk, hp, hr⟩ => ⟨hS.upd 0 rfl hk (fun _g hg => hg) (ckP c vp vg va vc vf _) hp (fun _g hg => .inl hg), hr⟩
def inZ (ks : List Int) (k : Int) : Bool := decide (0 ≤ idxQ (fun i => ks.getD i 0 == k) ks.length)
theorem inZ_iff {ks : List Int} {k : Int} : inZ ks k = true ↔ k ∈ ks := by
 unfold inZ
 rw [dtt]
 unfold idxQ
 constructor
 ·intro h
  cases hf : (List.range ks.length).find? fun i => ks.getD i 0 == k with
  | none => rw [hf] at h; simp only at h; omega
  | some i =>
   have h1 := List.find?_some hf
   have h2 := List.mem_of_find?_eq_some hf
   simp only [List.mem_range] at h2
   rw [beq_iff_eq, gdd, gee h2] at h1
   rw [← h1]; exact List.getElem_mem h2
 ·intro h
  obtain ⟨i, hi⟩ := List.getElem?_of_mem h
  have hl := (ges.1 hi).1
  cases hf : (List.range ks.length).find? fun i => ks.getD i 0 == k with
  | some j => simp only; omega
  | none =>
   rw [List.find?_eq_none] at hf
   have := hf i (by simpa using hl)
   rw [gdd, hi] at this
   simp at this
def deepA (ks : List Int) : Nat → Int × Int
 | 0 => (0, 0)
 | i + 1 => if ks.getD i 0 = 5 ∨ ks.getD i 0 = 7 then ((deepA ks i).1 + 1, if (deepA ks i).2 < (deepA ks i).1 + 1 then (deepA ks i).1 + 1 else (deepA ks i).2)
  else if ks.getD i 0 = 8 then ((deepA ks i).1 - 1, (deepA ks i).2) else deepA ks i
theorem deepA_b (ks : List Int) : ∀ i : Nat, -(i : Int) ≤ (deepA ks i).1 ∧ (deepA ks i).1 ≤ i ∧ 0 ≤ (deepA ks i).2 ∧ (deepA ks i).2 ≤ i
 | 0 => by simp [deepA]
 | i + 1 => by
  have := deepA_b ks i
  unfold deepA
  split
  ·simp only; split <;> omega
  ·split
   ·simp only; omega
   ·omega
def useT (s : SrcL) (f a : Int) (nm : ByteArray) (ks : List Int) : List (Bool × Flt) := [(!((fN s f nm).1 != 0), ⟨71, f, a⟩), (!inZ ks (fN s f nm).1, ⟨72, f, a⟩)]
set_option maxRecDepth 10000 in
set_option maxHeartbeats 8000000 in
theorem indexZ_ok {s : St} {v : AV} {ks : List Int} {k : Int} (hok : s.Ok) (hl : ks.length ≤ 2097152) (hv : RowP 1 v (ks.map iC)) :
  CallS Tryz.prog Tt Kt 126 [v, .int .i64 k] s fun r s' => Keep [] s s' ∧ r = .int .i64 (idxQ (fun i => ks.getD i 0 == k) ks.length) := by
 refine call_of (fn := Tryz.f126) (nt := 19) Tryz.func126 rfl rfl rfl ?_
 refine aq0 ?_
 have hK := Keep.refl hok
 refine aq2 ?_
 refine wvz (op_len rfl rfl rfl rfl rfl (RowP.slen hv |>.trans (by rw [lmm]))) ?_
 refine aq1 ?_
 refine wc_loop_at (fun jj m z => ∃ i : Nat, jj = ks.length - i ∧ i ≤ ks.length ∧ m = [(0, v), (1, .int .i64 k), (7, .int .i64 (ks.length : Nat)), (8, .int .i64 (i : Nat))] ∧ z = s ∧ ∀ j, j < i → (ks.getD j 0 == k) = false) ks.length
  [(0, v), (1, .int .i64 k), (7, .int .i64 (ks.length : Nat)), (8, .int .i64 ((0 : Nat) : Int))] (scn rfl (scn rfl (scn rfl (scn rfl (Sub.nil _))))) ⟨0, by simp, by simp, rfl, rfl, fun j h => by omega⟩ ?_
 rintro jj m z ⟨i, rfl, hi, rfl, eX, hq⟩
 obtain rfl := eX.symm
 refine aq1 ?_
 refine wcd (fun h9 => ?_) (fun h9 => ?_)
 ·refine aq0 ?_
  obtain ⟨n, hn⟩ : ∃ n, ks[i]? = some n := ⟨_, gee (by omega)⟩
  have hgn : ks.getD i 0 = n := by rw [gdd, hn]; rfl
  refine aq5 ?_
  refine wvz (oJ (RowP.up hv _)) ?_
  refine wvz (oM (Row.mk_pt (RowP.up hv _) hn)) ?_
  refine aq1 ?_
  refine wc_condT rfl (fun h16 => ?_) (fun h16 => ?_)
  ·have hq1 : (ks.getD i 0 == k) = true := by rw [hgn, BEq.comm]; exact h16
   refine aq2 ?_
   exact ⟨_, rfl, hK, by rw [idxQ_hit hq (by omega) hq1]; rfl⟩
  have hq1 : (ks.getD i 0 == k) = false := by rw [hgn, BEq.comm]; exact h16
  refine aq0 ?_
  refine wad ?_
  refine aq1 ?_
  exact rn ⟨i + 1, rfl, by omega, rfl, rfl, fun j hj => (lsl.1 hj).elim (hq j) fun e => by rw [e]; exact hq1⟩
 obtain rfl : i = ks.length := by omega
 refine aq1 ?_
 exact ⟨_, rfl, hK, by rw [idxQ_none hq]; rfl⟩
set_option maxRecDepth 10000 in
set_option maxHeartbeats 8000000 in
theorem containsZ_ok {s : St} {v : AV} {ks : List Int} {k : Int} (hok : s.Ok) (hl : ks.length ≤ 2097152) (hv : RowP 1 v (ks.map iC)) :
  CallS Tryz.prog Tt Kt 101 [v, .int .i64 k] s fun r s' => Keep [] s s' ∧ r = .bool (inZ ks k) := by
 refine call_of (fn := Tryz.f101) (nt := 9) Tryz.func101 rfl rfl rfl ?_
 refine aq0 ?_
 have hS := SH.start hok
 refine aq3 ?_
 refine wkz (indexZ_ok hok hl hv) ?_
 rintro _ z ⟨hk, rfl⟩
 have hS := hS.mov hk
 have hK := hS.K
 refine aq2 ?_
 exact ⟨_, rfl, hK, rfl⟩
set_option maxRecDepth 10000 in
set_option maxHeartbeats 8000000 in
theorem deep_ok {s : St} {v : AV} {ks : List Int} (hok : s.Ok) (hkl : ks.length ≤ 2097152) (hkv : KindsR .leaf v ks) :
  CallS Tryz.prog Tt Kt 66 [v] s fun r s' => Keep [] s s' ∧ r = .int .i64 (deepA ks ks.length).2 := by
 obtain ⟨css, hv, hl, hV⟩ := hkv
 refine call_of (fn := Tryz.f66) (nt := 28) Tryz.func66 rfl rfl rfl ?_
 refine aq0 ?_
 have hS := SH.start hok
 have hK := hS.K
 refine aq3 ?_
 refine wvz (v := .int .i64 (ks.length : Nat)) (op_len rfl rfl rfl rfl rfl (RowP.slen hv |>.trans (by rw [hl]))) ?_
 refine aq1 ?_
 refine wc_loop_at (fun jj m z => ∃ i : Nat, jj = ks.length - i ∧ i ≤ ks.length ∧ m = [(2, .int .i64 (deepA ks i).2), (3, .int .i64 (deepA ks i).1), (6, v), (7, .int .i64 (ks.length : Nat)), (8, .int .i64 (i : Nat))] ∧ Keep [] s z) ks.length
  [(2, .int .i64 0), (3, .int .i64 0), (6, v), (7, .int .i64 (ks.length : Nat)), (8, .int .i64 ((0 : Nat) : Int))] (scn rfl (scn rfl (scn rfl (scn rfl (scn rfl (Sub.nil _)))))) ⟨0, by simp, by simp, rfl, hK⟩ ?_
 clear hS hK
 rintro jj m z ⟨i, rfl, hi, rfl, hK⟩
 have hS := SH.of hK
 have hb := deepA_b ks i
 refine aq1 ?_
 refine wcd (fun h9 => ?_) (fun h9 => ?_)
 ·refine aq0 ?_
  obtain ⟨k, hk⟩ : ∃ k, ks[i]? = some k := ⟨_, gee (by omega)⟩
  obtain ⟨cy, hcy⟩ : ∃ c, css[i]? = some c := ⟨_, gee (by omega)⟩
  obtain ⟨ca, cb, cd, rfl⟩ := hV i k cy hk hcy
  have hgk : ks.getD i 0 = k := gD hk
  obtain ⟨hcl, hcz⟩ := hv.cells _ (mog hcy)
  refine aq0 ?_
  refine wvz (oI (RowP.up hv _)) ?_
  refine wvz (oM (Row.pt (RowP.up hv z.h) hcy)) ?_
  refine ws_alloc hS rfl rfl rfl rfl ?_
  rintro p0 z hS hk
  have hS : SH _ [_] z _ := hS
  refine ws_store 0 hS rfl rfl rfl rfl rfl rfl hcz (nl rfl) ?_
  rintro z hS
  have hS : SH _ [_] z _ := hS
  have hK := hS.K
  refine aq1 ?_
  refine wvz (oL 0 hS) ?_
  refine aq2 ?_
  refine wcb (fun h14 => ?_) (fun h14 => ?_)
  ·refine aq0 ?_
   refine wc_cond_t rfl ?_
   refine aq1 ?_
   refine wad ?_
   refine aq3 ?_
   refine wvz (op_max rfl rfl rfl) ?_
   refine aq1 ?_
   refine wad ?_
   refine aq1 ?_
   first
   | exact rn ⟨i + 1, rfl, by omega, by rw [deepA, if_pos (by omega)], hK⟩
   | exact rn ⟨i + 1, rfl, by omega, by rw [deepA, if_neg (by omega), if_pos (by omega)], hK⟩
   | exact rn ⟨i + 1, rfl, by omega, by rw [deepA, if_neg (by omega), if_neg (by omega)], hK⟩
  refine aq2 ?_
  refine wcb (fun h14 => ?_) (fun h14 => ?_)
  ·refine aq1 ?_
   refine wad ?_
   refine aq3 ?_
   refine wvz (op_max rfl rfl rfl) ?_
   refine aq1 ?_
   refine wad ?_
   refine aq1 ?_
   first
   | exact rn ⟨i + 1, rfl, by omega, by rw [deepA, if_pos (by omega)], hK⟩
   | exact rn ⟨i + 1, rfl, by omega, by rw [deepA, if_neg (by omega), if_pos (by omega)], hK⟩
   | exact rn ⟨i + 1, rfl, by omega, by rw [deepA, if_neg (by omega), if_neg (by omega)], hK⟩
  refine aq2 ?_
  refine wcb (fun h22 => ?_) (fun h22 => ?_)
  ·refine aq1 ?_
   refine wvz (op_sub rfl rfl (by unfold In64; omega)) ?_
   refine aq1 ?_
   refine wad ?_
   refine aq1 ?_
   first
   | exact rn ⟨i + 1, rfl, by omega, by rw [deepA, if_pos (by omega)], hK⟩
   | exact rn ⟨i + 1, rfl, by omega, by rw [deepA, if_neg (by omega), if_pos (by omega)], hK⟩
   | exact rn ⟨i + 1, rfl, by omega, by rw [deepA, if_neg (by omega), if_neg (by omega)], hK⟩
  refine aq0 ?_
  refine wad ?_
  refine aq1 ?_
  first
  | exact rn ⟨i + 1, rfl, by omega, by rw [deepA, if_pos (by omega)], hK⟩
  | exact rn ⟨i + 1, rfl, by omega, by rw [deepA, if_neg (by omega), if_pos (by omega)], hK⟩
  | exact rn ⟨i + 1, rfl, by omega, by rw [deepA, if_neg (by omega), if_neg (by omega)], hK⟩
 obtain rfl : i = ks.length := by omega
 refine aq2 ?_
 exact ⟨_, rfl, hK, rfl⟩
theorem SH.less {s0 s : St} {X : List Nat} {a b : Chunk} {R : List Chunk} (h : SH s0 (a :: b :: R) s X) (_k : Nat) : SH s0 (a :: R) s X := by
 refine ⟨h.K, fun i c hi => ?_, fun i j c d hij hi hj => ?_⟩
 ·cases i with
  | zero => exact h.own 0 c hi
  | succ i => exact h.own (i + 2) c hi
 ·have key : ∀ (i : Nat) (c : Chunk), (a :: R)[i]? = some c → (a :: b :: R)[if i = 0 then 0 else i + 1]? = some c := by
   intro i c hi
   cases i with
   | zero => exact hi
   | succ i => simpa using hi
  refine h.dis (if i = 0 then 0 else i + 1) (if j = 0 then 0 else j + 1) c d ?_ (key i c hi) (key j d hj)
  split <;> split <;> omega
set_option maxRecDepth 10000 in
set_option maxHeartbeats 8000000 in
theorem use_ok {s0 z : St} {X : List Nat} {R : List Chunk} {c : Nat} {vp vg va vc vf v : AV} {x : SrcL} {x0 : Flt} {f a : Int} {nm : ByteArray} {ks : List Int} (hS : SH s0 (ckP c vp vg va vc vf x0 :: R) z X) (hx : x.small) (hv : SrcP x [vp, vg, va, vc, vf]) (hkl : ks.length ≤ 2097152) (hkv : RowP 1 v (ks.map iC)) :
  CallS Tryz.prog Tt Kt 72 [.ptr c 0 0, .int .i64 f, .int .i64 a, .str nm, v] z fun r z' => SH s0 (ckP c vp vg va vc vf ((useT x f a nm ks).foldl (fun y p => tellF y p.1 p.2) x0) :: R) z' X ∧ r = .tup [] := by
 refine call_of (fn := Tryz.f72) (nt := 37) Tryz.func72 rfl rfl rfl ?_
 refine aq3 ?_
 refine wvz (v := .agg [vp, vg, va, vc, vf]) (oM ((hS.pt 0 rfl).at (o := 0) (Nat.zero_le _))) ?_
 refine aq2 ?_
 refine wkz (find_ok hS.ok hx hv) ?_
 rintro _ z ⟨hk, rfl⟩
 have hS := hS.mov hk
 refine aq3 ?_
 refine ws_alloc hS rfl rfl rfl rfl ?_
 rintro p1 z hS hk
 have hS : SH _ (_ :: _ :: R) z _ := hS.perm (.cons _ (List.perm_append_singleton _ _))
 refine ws_store 1 hS rfl rfl rfl rfl rfl rfl (by rfl) (nl rfl) ?_
 rintro z hS
 have hS : SH _ (_ :: _ :: R) z _ := hS
 refine aq6 ?_
 refine wkz (tell_sh hS) ?_
 rintro _ z ⟨hS, rfl⟩
 refine aq3 ?_
 refine wvz (oL 1 hS) ?_
 refine wkz (containsZ_ok hS.ok hkl hkv) ?_
 rintro _ z ⟨hk, rfl⟩
 have hS := hS.mov hk
 refine aq3 ?_
 refine wkz (tell_sh hS) ?_
 rintro _ z ⟨hS, rfl⟩
 refine aq0 ?_
 exact ⟨_, rfl, hS.less 1, rfl⟩
end Go.Ab
namespace Go.Ab
section
variable {T : Tab} {call : FuncId → List AV → St → Option (End × St)} {ops : Array Oper}
theorem hoist_ref {D : Nat → Prop} : ∀ (l : List Oper) {s z z0 : St} {hs : List (Option (Nat × List AV))}, StZ D s z → hoist false T l [] z = some (z0, hs) → ∃ s0, hoist false T l [] s = some (s0, hs) ∧ StepZ D s z s0 z0 ∧ hs.length = l.length
 | [], s, z, z0, hs, k, h => by cases h; exact ⟨s, rfl, .refl k, rfl⟩
 | o :: l, s, z, z0, hs, k, h => by
  rw [hoist] at h ⊢
  by_cases he : Oper.early false o = true
  ·rw [if_pos he] at h ⊢
   cases hc : earlyCells T (([] : List (List AV)).headD []) o.op with
   | none => rw [hc] at h; cases h
   | some cs =>
    rw [hc] at h
    simp only at h ⊢
    split at h
    ·rename_i hl
     rw [if_pos hl]
     cases hr : hoist false T l ([] : List (List AV)).tail (z.newG (earlyG cs o.op)) with
     | none => rw [hr] at h; cases h
     | some q =>
      obtain ⟨z1, hs1⟩ := q
      rw [hr] at h
      cases h
      have k1 := StepZ.newG k (GZ.refl (h := s.h) (D := D) (earlyG cs o.op))
      obtain ⟨s0, e1, e2, e3⟩ := hoist_ref l k1.st hr
      refine ⟨s0, ?_, k1.trans e2, by rw [lcc, lcc, e3]⟩
      rw [show ([] : List (List AV)).tail = [] from rfl, e1, k.ctr]
    ·cases h
  ·rw [if_neg he] at h ⊢
   cases hr : hoist false T l ([] : List (List AV)).tail z with
   | none => rw [hr] at h; cases h
   | some q =>
    obtain ⟨z1, hs1⟩ := q
    rw [hr] at h
    cases h
    obtain ⟨s0, e1, e2, e3⟩ := hoist_ref l k hr
    refine ⟨s0, ?_, e2, by rw [lcc, lcc, e3]⟩
    rw [show ([] : List (List AV)).tail = [] from rfl, e1]
theorem evLog_kindsH : ∀ (l : List Oper) (hs : List (Option (Nat × List AV))) {t t' : TL} {s s' : St} {es : List Entry}, evLog T call ops l hs t s = some (t', s', es) → ∀ (i : Nat) (e : Entry) (o : Oper), es[i]? = some e → l[i]? = some o → (e.rd ≠ none → Op.readB o.op = true) ∧ (e.wr ≠ [] → Op.eff o.op = true)
 | [], hs, t, t', s, s', es, h => by
  cases hs <;> (cases h; intro i e o h; simp at h)
 | o :: l, [], t, t', s, s', es, h => by cases h; intro i e o h; simp at h
 | o :: l, some (c, cs) :: hs, t, t', s, s', es, h => by
  rw [evLog] at h
  split at h
  ·cases h
  ·rename_i v hv
   split at h
   ·cases h
   ·rename_i t2 s2 l2 h2
    cases h
    have k2 := evLog_kindsH l hs h2
    intro i e o' he ho
    cases i with
    | succ i => exact k2 i e o' (by simpa using he) (by simpa using ho)
    | zero =>
     simp only [List.getElem?_cons_zero, sjj] at he ho
     subst he ho
     exact ⟨fun h => (h rfl).elim, fun h => (h rfl).elim⟩
 | o :: l, none :: hs, t, t', s, s', es, h => by
  rw [evLog] at h
  split at h
  ·cases h
  ·rename_i t1 s1 h1
   split at h
   ·cases h
   ·rename_i t2 s2 l2 h2
    cases h
    have k2 := evLog_kindsH l hs h2
    intro i e o' he ho
    cases i with
    | succ i => exact k2 i e o' (by simpa using he) (by simpa using ho)
    | zero =>
     simp only [List.getElem?_cons_zero, sjj] at he ho
     subst he ho
     refine ⟨fun hr => ?_, fun hw => ?_⟩
     ·simp only at hr
      split at hr
      ·revert hr
       cases o.op <;> first | (intro _; rfl) | (intro hr; exact (hr rfl).elim)
      ·exact (hr rfl).elim
     ·simp only at hw
      cases hf : Op.eff o.op with
      | true => rfl
      | false =>
       exfalso
       apply hw
       unfold evStep at h1
       split at h1
       ·cases h1
       ·cases h1; rfl
       ·split at h1
        ·cases h1
        ·rename_i hv; cases h1; rw [(still_op hv hf).1]
        ·rename_i hv; obtain ⟨-, v, e⟩ := still_op hv hf; cases e
        ·rename_i hv; obtain ⟨-, v, e⟩ := still_op hv hf; cases e
theorem logOk_k {Dd D : Nat → Prop} {es : List Entry} (hlen : es.length = ops.size) (hk : ∀ (i : Nat) (e : Entry) (o : Oper), es[i]? = some e → ops.toList[i]? = some o → (e.rd ≠ none → Op.readB o.op = true) ∧ (e.wr ≠ [] → Op.eff o.op = true)) (hz : LogZ ops Dd es D) : logOk (Region.before ops) es = true := by
 unfold logOk
 rw [aet]
 intro i _
 cases hi : es[i]? with
 | none => rfl
 | some x =>
  obtain ⟨Di, -, -, hal, -⟩ := hz.at hi
  simp only [hal, Bool.and_true]
  cases hrd : x.rd with
  | none => rfl
  | some g =>
   simp only
   rw [aet]
   intro e _
   cases he : es[e]? with
   | none => simp
   | some y =>
    simp only
    have hil : i < ops.size := by
     have := (ges.1 hi).1
     omega
    have hel : e < ops.size := by
     have := (ges.1 he).1
     omega
    cases hro : rdAt ops (es.length - 1 - i) with
    | true =>
     cases hw : y.wr.contains g with
     | false => simp
     | true =>
      have h2 := (hk e y ops[e] he (by simp [hel])).2 (fun h => by rw [h] at hw; simp at hw)
      unfold rdAt at hro
      rw [aet] at hro
      have h3 := hro e (by simp [hel])
      rw [Array.getElem?_eq_getElem hel] at h3
      simp only [h2, Bool.not_true, Bool.false_or] at h3
      rw [show ops.size - (es.length - 1 - i + 1) = i by omega] at h3
      rw [h3]; rfl
    | false =>
    by_cases hc : i ≤ e
    ·have := hz.later hi he hc hro g hrd
     have : y.wr.contains g = false := by
      cases hc : y.wr.contains g with
      | false => rfl
      | true => exact absurd (by simpa using hc) this
     rw [this]; simp
    ·have hei : e < i := by omega
     cases hw : y.wr.contains g with
     | false => simp
     | true =>
      obtain ⟨j, hj1, hj2, hf⟩ := hz.ahead hi he hei hro hrd (by simpa using hw)
      have h1 := (hk i x ops[i] hi (by simp [hil])).1 (by rw [hrd]; simp)
      have h2 := (hk e y ops[e] he (by simp [hel])).2 (fun h => by rw [h] at hw; simp at hw)
      unfold fzAt at hf
      rw [aet] at hf
      have h3 := hf i (by simp [hil])
      rw [aet] at h3
      have h4 := h3 e (by simp [hel])
      rw [Array.getElem?_eq_getElem hil, Array.getElem?_eq_getElem hel] at h4
      have b1 : Nat.ble (ops.size - (es.length - 1 - j)) i = true := Nat.ble_eq_true_of_le (by omega)
      have b2 : Nat.ble (e + 1 + (es.length - 1 - j)) ops.size = true := Nat.ble_eq_true_of_le (by omega)
      simp only [h1, h2, b1, b2, Bool.and_self, Bool.not_true, Bool.false_or] at h4
      rw [h4]; rfl

def noAl (e : Entry) : Entry := ⟨e.rd, e.wr, none⟩
def EarZ (ops : Array Oper) (A : List (Nat × Nat)) (j : Nat) (es : List Entry) : Prop :=
 ∀ (i : Nat) (e : Entry), es[i]? = some e → (∀ g, e.al = some g → (j + i, g) ∈ A) ∧ ∀ g ∈ e.wr, ∀ p ∈ A, p.2 = g → aheadB (Region.before ops) p.1 (j + i) = true
theorem logOk_e {A : List (Nat × Nat)} {es : List Entry} (h : logOk (Region.before ops) (es.map noAl) = true) (k : EarZ ops A 0 es) : logOk (Region.before ops) es = true := by
 unfold logOk at h ⊢
 rw [aet] at h ⊢
 intro i hi
 have h1 := h i (by simpa using hi)
 cases he : es[i]? with
 | none => rfl
 | some x =>
  rw [gmm, he] at h1
  simp only [Option.map_some, noAl, Bool.and_true, lmm, gmm] at h1
  simp only [Bool.and_eq_true]
  constructor
  ·cases hrd : x.rd with
   | none => rfl
   | some g =>
    rw [hrd] at h1
    simp only at h1 ⊢
    rw [aet] at h1 ⊢
    intro e hee
    have h2 := h1 e hee
    cases hy : es[e]? with
    | none => simp
    | some y => rw [hy] at h2; exact h2
  ·cases hal : x.al with
   | none => rfl
   | some g =>
    simp only
    rw [aet]
    intro e _
    cases he' : es[e]? with
    | none => simp
    | some y =>
     simp only
     cases hc : y.wr.contains g with
     | false => simp
     | true =>
      have h3 := (k e y he').2 g (by simpa using hc) (i, g) (by have := (k i x he).1 g hal; rwa [Nat.zero_add] at this) rfl
      rw [Nat.zero_add] at h3
      rw [h3]; rfl
end
section
variable {P : Program} {T : Tab} {K : Kn} {nt : NT} {ops : Array Oper}
def WE (P : Program) (T : Tab) (K : Kn) (nt : NT) (ops : Array Oper) (A : List (Nat × Nat)) (j : Nat) (l : List Oper) (hs : List (Option (Nat × List AV))) (m : Sy) (z : St) (Dd : Nat → Prop) (Q : Sy → St → Prop) : Prop :=
 ∃ N m' z', Q m' z' ∧ ∀ n, N ≤ n → ∀ (D : Nat → Prop) (t : TL) (s : St), Conc D nt m z t s → ∃ (D' : Nat → Prop) (t' : TL) (s' : St) (es : List Entry), evLog T (evX P T K n) ops l hs t s = some (t', s', es) ∧ Pass D s D' s' ∧ Conc D' nt m' z' t' s' ∧ LogZ ops Dd (es.map noAl) D ∧ es.length = l.length ∧ EarZ ops A j es
variable {Dd : Nat → Prop} {A : List (Nat × Nat)} {j : Nat} {rest : List Oper} {hs : List (Option (Nat × List AV))} {m : Sy} {s s0 z z0 : St} {Q : Sy → St → Prop} {R : Ex → Sy → St → Prop} {o : Oper}
theorem we_nil (h : Q m s) : WE P T K nt ops A j [] [] m s Dd Q := ⟨0, m, s, h, fun _ _ E t x ht => ⟨E, t, x, [], rfl, .refl, ht, trivial, rfl, fun i e h => by simp at h⟩⟩
theorem we_consG (hr : (∀ t, Has t nt m → ∀ g, readsA t o.op = some g → Dd g) ∨ rdAt ops rest.length = true)
  (h : W1 (fzAt ops rest.length) P T K nt ops o m s.bare fun m1 s1 => (∀ g ∈ s1.wr, ¬ Dd g ∧ ∀ p ∈ A, p.2 = g → aheadB (Region.before ops) p.1 j = true) ∧ WE P T K nt ops A (j + 1) rest hs m1 { s1 with wr := s1.wr ++ s.wr } Dd Q) : WE P T K nt ops A j (o :: rest) (none :: hs) m s Dd Q := by
 obtain ⟨N, m1, s1, ⟨hw, N', m', s', hq, h'⟩, hn⟩ := h
 refine ⟨max N N', m', s', hq, fun n hn' E t x ht => ?_⟩
 have htb : Conc E nt m s.bare t x.bare := ⟨bare_stz ht.st, ht.n, ht.ds, ht.rd, ht.at_⟩
 obtain ⟨E1, t1, x1, e1, p1, hf, ht1⟩ := hn n (by omega) E t x.bare htb
 obtain ⟨w, hw1, hw2⟩ := p1.wr
 have hw1 : x1.wr = w := by rw [hw1]; exact List.append_nil w
 have ht1' : Conc E1 nt m1 { s1 with wr := s1.wr ++ s.wr } t1 { x1 with wr := x1.wr ++ x.wr } := ⟨⟨ht1.st.ctr, by simp only [ht1.st.wr, ht.st.wr], ht1.st.get, ht1.st.bd⟩, ht1.n, ht1.ds, ht1.rd, ht1.at_⟩
 have p1' : Pass E x E1 { x1 with wr := x1.wr ++ x.wr } := ⟨p1.sub, p1.un, w, by simp only [hw1], hw2⟩
 obtain ⟨E2, t2, x2, es, e2, p2, ht2, hL, hlen, hE⟩ := h' n (by omega) E1 t1 _ ht1'
 refine ⟨E2, t2, x2, _ :: es, by rw [evLog]; rw [show ({ x with wr := [] } : St) = x.bare from rfl, e1]; simp only; rw [e2], p1'.trans p2, ht2, ⟨rfl, fun g hg => ?_, fun g hg => ⟨(hw g (by rw [← ht1.st.wr]; exact hg)).1, hw2 g (by rw [← hw1]; exact hg)⟩, E1, p1.sub, (by rw [lmm, hlen]; exact hf), hL⟩, by rw [lcc, lcc, hlen], fun i e hi => ?_⟩
 ·simp only [noAl] at hg
  split at hg
  ·obtain ⟨t0, h0, hT⟩ := ht.told
   rcases hr with hr | hr
   ·rcases reads_ref hT hg with h1 | h1
    ·exact .inl (hr t0 h0 g h1)
    ·exact .inr (.inl h1)
   ·exact .inr (.inr (by rw [lmm, hlen]; exact hr))
  ·cases hg
 ·cases i with
  | zero =>
   simp only [List.getElem?_cons_zero, sjj] at hi
   subst hi
   exact ⟨fun g h => (by cases h), fun g hg => (hw g (by rw [← ht1.st.wr]; exact hg)).2⟩
  | succ i =>
   have := hE i e (by simpa using hi)
   rw [show j + (i + 1) = j + 1 + i by omega]
   exact this
theorem we_alloc {d ty : Nat} {pos : String} {af : Array Edge} {e : TypeId} {c : Nat} {cs : List AV} (hd : Nat.ble (d + 1) nt.n = true) (hA : (j, c) ∈ A) (k : WE P T K nt ops A (j + 1) rest hs ((d, .ptr c 0 0) :: m) s Dd Q) :
  WE P T K nt ops A j (⟨some d, .alloc e, ty, pos, af, none⟩ :: rest) (some (c, cs) :: hs) m s Dd Q := by
 obtain ⟨N, m', s', hq, hn⟩ := k
 refine ⟨N, m', s', hq, fun n hn' E t x ht => ?_⟩
 obtain ⟨E2, t2, x2, es, e2, p2, ht2, hL, hlen, hE⟩ := hn n hn' E _ _ (ht.set (v' := .ptr c 0 0) (Nat.le_of_ble_eq_true hd) (.refl _))
 refine ⟨E2, t2, x2, ⟨none, [], some c⟩ :: es, ?_, p2, ht2, ⟨rfl, (fun g hg => by cases hg), (fun g hg => by cases hg), E, fun _ h => h, fun _ _ h => h, hL⟩, by rw [lcc, lcc, hlen], fun i x hi => ?_⟩
 ·rw [evLog]
  have : earlyVal T ops ⟨some d, .alloc e, ty, pos, af, none⟩ t c cs = some (.ptr c 0 0) := rfl
  rw [this]
  simp only
  rw [show putA t (some d) (.ptr c 0 0) = t.set d (.ptr c 0 0) from rfl, e2]
 ·cases i with
  | zero =>
   simp only [List.getElem?_cons_zero, sjj] at hi
   subst hi
   exact ⟨fun g hg => (by cases hg; exact hA), fun g hg => (by cases hg)⟩
  | succ i =>
   have := hE i x (by simpa using hi)
   rw [show j + (i + 1) = j + 1 + i by omega]
   exact this
theorem wc_early {id : Nat} (hd : drawOk false ops = true) (hh : hoist false T ops.toList [] z = some (z0, hs)) (h : WE P T K nt ops A 0 ops.toList hs m z0 Dd (R .normal)) : WC P T K nt (.region id ops true) m z R := by
 obtain ⟨N, m', s', hq, hn⟩ := h
 refine ⟨N + 1, .normal, m', s', hq, fun n k hn1 hk E t x ht => ?_⟩
 obtain ⟨x0, hx0, hst, -⟩ := hoist_ref ops.toList ht.st hh
 obtain ⟨E', t', x', es, e1, p1, ht', hL, hlen, hE⟩ := hn n (by omega) E t x0 (ht.pass hst.pass hst.st)
 obtain ⟨k, rfl⟩ : ∃ j, k = j + 1 := ⟨k - 1, by omega⟩
 refine ⟨E', t', x', ?_, hst.pass.trans p1, ht'⟩
 have hkd := evLog_kindsH ops.toList hs e1
 have hok : logOk (Region.before ops) es = true := by
  refine logOk_e (logOk_k (by rw [lmm, hlen]; simp) (fun i e o he ho => ?_) hL) hE
  rw [gmm] at he
  cases hi : es[i]? with
  | none => rw [hi] at he; cases he
  | some y => rw [hi] at he; cases he; exact hkd i y o hi ho
 have : evDraw T (evX P T K n) false [] ops t x = some (t', x') := by
  unfold evDraw
  rw [hx0]
  simp only [e1, hok, if_true]
 simp only [evCode, hd, if_true, this]
theorem SH.lay {L : List Chunk} {X : List Nat} (h : SH s0 L s X) (cs : List AV) : SH s0 (L ++ [ptC (.ptr s.ctr 0 0) cs]) (s.newG ⟨[⟨cs, 0, none⟩]⟩) X :=
 h.add (newG_keep h.ok _).1 _ (rd_new h.ok) fun g hg => by
  rw [msi.1 hg, (newG_keep h.ok _).2.2]; exact ⟨nlr _, Nat.lt_succ_self _⟩
theorem wc_early1 {id k : Nat} {L : List Chunk} {X : List Nat} {cs : List AV} (H : Nat → List (Option (Nat × List AV))) (hS : SH s0 L z X) (hd : drawOk false ops = true) (hh : ∀ z, hoist false T ops.toList [] z = some (z.newG ⟨[⟨cs, 0, none⟩]⟩, H z.ctr))
  (h : ∀ c z', SH s0 (L ++ [ptC (.ptr c 0 0) cs]) z' X → c < z'.ctr → Keep [] z' z' → WE P T K nt ops [(k, c)] 0 ops.toList (H c) m z' (Old z' [c]) (R .normal)) : WC P T K nt (.region id ops true) m z R := by
 have h1 := hS.lay cs
 exact wc_early hd (hh z) (h z.ctr _ h1 (by rw [(newG_keep hS.ok _).2.2]; exact Nat.lt_succ_self _) (Keep.refl h1.ok))
def tz (T : Tab) (e : TypeId) : List AV := match T e with
 | some i => i.zero
 | none => []
theorem ah1 {B : Array Nat} {k c j : Nat} (h : aheadB B k j = true) : ∀ p ∈ [(k, c)], p.2 = c → aheadB B p.1 j = true := by
 intro p hp _; rw [msi.1 hp]; exact h
theorem SH.off {L : List Chunk} {Y : List Nat} {i j g0 c o : Nat} {cs cs' : List AV} (h : SH s0 L s Y) (hij : i ≠ j) (hi : L[i]? = some (ptC (.ptr g0 0 0) cs)) (hj : L[j]? = some (ptC (.ptr c 0 0) cs')) : ∀ g ∈ (AV.ptr g0 0 o).gs, g ∉ [c] := by
 intro g hg hc
 exact h.dis i j _ _ hij hi hj g hg hc
theorem ac1 {k c n : Nat} (h : c < n) : ∀ p ∈ [(k, c)], p.2 < n := by
 intro p hp; rw [msi.1 hp]; exact h
variable {X : List Nat} {d ty : Nat} {pos : String} {af : Array Edge} {g : Option (Nat × Bool)} {op : Op} {v : AV}
theorem we_val (hr : ∀ t, readsA t op = none) (hg : guardY ops m g = some true) (hd : Nat.ble (d + 1) nt.n = true) (h : ∀ t, Has t nt m → evOp T op t s.bare = some (.val v, s.bare)) (k : WE P T K nt ops A (j + 1) rest hs ((d, v) :: m) s Dd Q) :
  WE P T K nt ops A j (⟨some d, op, ty, pos, af, g⟩ :: rest) (none :: hs) m s Dd Q := we_consG (.inl fun t _ g hg => by rw [hr t] at hg; cases hg) (w1_val hg hd h ⟨fun g hg => (by cases hg), k⟩)
theorem we_load {tt : TypeId} {a : Operand} {i : TI} {p : AV} {cs : List AV} (hK : Keep [] s0 s) (hx : evY m a = some p) (hT : T tt = some i) (hp : Pt s0.h p cs) (hc : loadC i cs = some v) (hX : ∀ g ∈ p.gs, g ∉ X) (hg : guardY ops m g = some true) (hd : Nat.ble (d + 1) nt.n = true)
  (k : WE P T K nt ops A (j + 1) rest hs ((d, v) :: m) s (Old s0 X) Q) : WE P T K nt ops A j (⟨some d, .load tt a, ty, pos, af, g⟩ :: rest) (none :: hs) m s (Old s0 X) Q :=
 have hp' : Pt s.h p cs := hp.keep hK (by intro g _ h; cases h)
 we_consG (.inl fun t ht g hg => by
   have := rd_load ht hx g hg
   exact ⟨hp.lt hK.ok0 g this, hX g this⟩) (w1_val (s' := s.bare) hg hd (op_load (s := s.bare) hx hT (show Pt s.bare.h p cs from hp') hc) ⟨fun g hg => (by cases hg), k⟩)
theorem we_call {f : FuncId} {args : List AV} {R : AV → St → Prop} (hK : Keep [] s0 s) (hA : ∀ p ∈ A, p.2 < s0.ctr) (hg : guardY ops m g = some true) (hd : Nat.ble (d + 1) nt.n = true) (hr : ∀ t, readsA t op = none) (h : ∀ t, Has t nt m → evOp T op t s.bare = some (.call f args, s.bare)) (hc : CallS P T K f args s.bare R)
  (hw : ∀ v s', R v s' → Keep [] s.bare s') (k : ∀ v s', R v s' → Keep [] s0 (s'.join s) → WE P T K nt ops A (j + 1) rest hs ((d, v) :: m) (s'.join s) (Old s0 X) Q) (hf : fzAt ops rest.length = true := by kernel_rfl) : WE P T K nt ops A j (⟨some d, op, ty, pos, af, g⟩ :: rest) (none :: hs) m s (Old s0 X) Q :=
 we_consG (.inl fun t _ g hg => by rw [hr t] at hg; cases hg) (w1_call hg hd h hc (fun v s' hr' => by
   have hk := hw v s' hr'
   have h2 : ∀ g ∈ s'.wr, s.ctr ≤ g := fun g hg => by
     rcases hk.wr g hg with h1 | h1 | h1
     · cases h1
     · cases h1
     · exact h1
   have := hK.ctr
   refine ⟨fun g hg => ⟨fun ho => ?_, fun p hp e => ?_⟩, k v s' hr' (hK.trans hk.joined (by intro g hg; cases hg))⟩
   · have := h2 g hg
     have := ho.1
     omega
   · have := h2 g hg
     have := hA p hp
     omega) hf)
theorem we_store {tt : TypeId} {a x : Operand} {i : TI} {c : Nat} {u : AV} {old : List AV} (hX : c ∈ X) (hok : s.Ok) (hah : ∀ p ∈ A, p.2 = c → aheadB (Region.before ops) p.1 j = true) (hg : guardY ops m g = some true) (ha : evY m a = some (.ptr c 0 0)) (hx : evY m x = some u) (hT : T tt = some i) (hl : u.cells.length = i.size) (hlo : u.cells.length = old.length)
  (hz : u.cells.all AV.leaf = true) (hp : Pt s.h (.ptr c 0 0) old)
  (k : ∀ s', Pt s'.h (.ptr c 0 0) u.cells → Keep [c] s s' → WE P T K nt ops A (j + 1) rest hs m s' (Old s0 X) Q) : WE P T K nt ops A j (⟨none, .store tt a x, ty, pos, af, g⟩ :: rest) (none :: hs) m s (Old s0 X) Q := by
 have hokb : s.bare.Ok := hok
 have hpb : rdH s.bare.h c 0 0 old.length = some old := hp
 obtain ⟨s', e1, e2, e3, e4⟩ := write_over hokb hpb (k := 0) (c := u.cells) (by omega) hz
 rw [Nat.add_zero] at e1
 have hwr : ∀ g ∈ s'.wr, g = c := by
  unfold St.write at e1
  simp only [hz, if_true] at e1
  split at e1
  ·cases e1
  ·split at e1
   ·cases e1
   ·cases e1
    intro g hg
    exact msi.1 hg
 refine we_consG (.inl fun t _ g hg => by cases hg) (w1_skip (s' := s') hg rfl (fun t ht => ?_) ⟨fun g hg => ?_, k (s'.join s) ?_ e3.joined⟩)
 ·have hnl : ¬ (u.cells.length ≠ i.size) := fun h => h hl
  simp only [evOp, hT, evY_ok ht ha, evY_ok ht hx, if_neg hnl, e1]
 ·rw [hwr g hg]
  exact ⟨fun ho => ho.2 hX, hah⟩
 ·show rdH s'.h c 0 0 u.cells.length = some u.cells
  rw [hlo, e2]
  unfold over
  simp [hlo]
end
end Go.Ab
namespace Go.Ab
open Go.Proofs
theorem SH.sub {s0 s : St} {X : List Nat} {L L' : List Chunk} (h : SH s0 L s X) (p : L'.Sublist L) : SH s0 L' s X := by
 have hp : L.Pairwise Chunk.Dj := by
  rw [List.pairwise_iff_getElem]
  intro i j hi hj hij
  exact h.dis i j _ _ (by omega) (gee hi) (gee hj)
 have hp' : L'.Pairwise Chunk.Dj := hp.sublist p
 refine ⟨h.K, fun i c hi => ?_, fun i j c d hij hi hj => ?_⟩
 ·obtain ⟨k, hk⟩ := List.getElem?_of_mem (p.subset (mog hi))
  exact h.own k c hk
 ·obtain ⟨h1, rfl⟩ := ges.1 hi
  obtain ⟨h2, rfl⟩ := ges.1 hj
  rw [List.pairwise_iff_getElem] at hp'
  rcases Nat.lt_or_gt_of_ne hij with k | k
  ·exact hp' i j h1 h2 k
  ·exact fun g hg hd => hp' j i h2 h1 k g hd hg
theorem KindsR.up {v : AV} {ks : List Int} (k : KindsR .leaf v ks) (h : Tr Grp) : KindsR h v ks := by
 obtain ⟨css, h1, h2, h3⟩ := k
 exact ⟨css, RowP.up h1 h, h2, h3⟩
def tellL (x : Flt) (l : List (Bool × Flt)) : Flt := l.foldl (fun y p => tellF y p.1 p.2) x
theorem tellL_app (x : Flt) (l r : List (Bool × Flt)) : tellL x (l ++ r) = tellL (tellL x l) r := List.foldl_append
def manyN (y : FunL) : Bool := decide (8 < y.params.length ∨ 4 < y.results.length ∨ 32 < y.vars.length ∨ 256 < y.body.length)
def locsL (y : FunL) : List DeclL := y.params ++ y.vars
def locT (s : SrcL) (k : Nat) (y : FunL) (i : Nat) : List (Bool × Flt) := match (locsL y)[i]? with
 | none => []
 | some d => [(!nameOk d.name, ⟨1, k, -1⟩), ((gN s d.name).1 != 0 || decide (0 ≤ fiI (((locsL y).take i).map DeclL.name) d.name), ⟨70, k, -1⟩), (forN s.principals.length d.label, ⟨10, k, -1⟩)]
def resT (s : SrcL) (k : Nat) (y : FunL) (i : Nat) : List (Bool × Flt) := match y.results[i]? with
 | none => []
 | some l => [(forN s.principals.length l, ⟨10, k, -1⟩)]
def kinds (y : FunL) : List Int := y.body.map StmtL.kind
def lastN (y : FunL) : Int := idxQ (fun i => (kinds y).getD i 0 == 9) y.body.length
def headA (s : SrcL) (k : Nat) (y : FunL) : List (Bool × Flt) := [(manyN y, ⟨74, k, -1⟩), (forN s.principals.length y.level, ⟨10, k, -1⟩)]
def headZ (k : Nat) (y : FunL) : List (Bool × Flt) := [(!(ends1 (kinds y)).isSome || decide ((deepA (kinds y) y.body.length).2 > 12), ⟨50, k, -1⟩), (decide (lastN y < 0) || (lastN y != (y.body.length : Int) - 1), ⟨50, k, -1⟩)]
def headT (s : SrcL) (k : Nat) (y : FunL) : List (Bool × Flt) := headA s k y ++ (List.range (locsL y).length).flatMap (locT s k y) ++ (List.range y.results.length).flatMap (resT s k y) ++ headZ k y
theorem many_t {y : FunL} (h : 8 < y.params.length ∨ 4 < y.results.length ∨ 32 < y.vars.length ∨ 256 < y.body.length) : manyN y = true := decide_eq_true h
theorem many_l {y : FunL} (h1 : ¬ 8 < y.params.length) (h2 : ¬ 4 < y.results.length) (h3 : ¬ 32 < y.vars.length) : manyN y = decide ((y.body.length : Int) > 256) := decide_eq_decide.2 (by omega)
set_option maxRecDepth 10000 in
set_option maxHeartbeats 8000000 in
theorem clo107_ok {s : St} {k : Int} {a b d : AV} (hok : s.Ok) (hz : ([.int .i64 k, a, b, d] : List AV).all AV.leaf = true) :
  CallS Tryz.prog Tt Kt 68 [.agg [.int .i64 k, a, b, d]] s fun r s' => Keep [] s s' ∧ r = .bool (k == 9) := by
 refine call_of (fn := Tryz.f68) (nt := 6) Tryz.func68 rfl rfl rfl ?_
 refine aq0 ?_
 have hS := SH.start hok
 refine aq0 ?_
 refine ws_box hS rfl rfl rfl hz ?_
 rintro p0 z hS hk
 have hS : SH _ [_] z _ := hS
 have hK := hS.K
 refine aq2 ?_
 refine wvz (oL 0 hS) ?_
 refine aq2 ?_
 exact ⟨_, rfl, hK, rfl⟩
set_option maxRecDepth 10000 in
set_option maxHeartbeats 8000000 in
theorem head_ok {s0 z : St} {X : List Nat} {R : List Chunk} {c k : Nat} {vp vg va vc vf : AV} {x : SrcL} {y : FunL} {x0 : Flt} (hS : SH s0 (ckP c vp vg va vc vf x0 :: R) z X) (hx : x.small) (hfi : x.fine) (hv : SrcP x [vp, vg, va, vc, vf]) (hy : x.funcs[k]? = some y) :
  CallS Tryz.prog Tt Kt 31 [.ptr c 0 0, .int .i64 (k : Nat)] z fun r z' => SH s0 (ckP c vp vg va vc vf (tellL x0 (headT x k y)) :: R) z' X ∧ r = .tup [] := by
 obtain ⟨_, _, _, _, _, e0, hvp, hvg, hva, hvc, csf, hrf, hlf, hF⟩ := id hv
 cases e0
 obtain ⟨hl1, hl2, hl3, hl4, hl5, hsm⟩ := id hx
 obtain ⟨cy, hcy⟩ : ∃ c, csf[k]? = some c := ⟨_, gee (by rw [hlf]; exact (ges.1 hy).1)⟩
 have hkl := (ges.1 hy).1
 obtain ⟨yp, yr, yv, yb, rfl, hyp, hyr, hyv, hyb⟩ := hF k y cy hy hcy
 obtain ⟨hy1, hy2, hy3, hy4, hy5⟩ := id (hsm y (mog hy))
 obtain ⟨hg1, hg2, hg3, hg4, hg5⟩ := hfi.2.2.2.2 y (mog hy)
 have hzy : ([.str y.name, .int .u64 y.level, yp, yr, yv, yb] : List AV).all AV.leaf = true := by
  obtain ⟨css, h5, -⟩ := id hyb
  simp only [List.all_cons, List.all_nil, hyp.leaf, hyr.leaf, hyv.leaf, h5.leaf]; rfl
 have hkr : KindsR .leaf yb (kinds y) := KindsR.of hyb
 obtain ⟨csb, hbr, hbl, hbE⟩ := id hyb
 have hsb : yb.slen = some y.body.length := by rw [hbr.slen, hbl]
 have hnp : vp.slen = some x.principals.length := by have := RowP.slen hvp; rwa [lmm] at this
 have hlf2 : ∀ d ∈ locsL y, d.fine := fun d hd => (List.mem_append.1 hd).elim (hg3 d) (hg5 d)
 have hll : (locsL y).length ≤ 4194304 := by rw [locsL, laa]; omega
 refine call_of (fn := Tryz.f31) (nt := 155) Tryz.func31 rfl rfl rfl ?_
 refine aq4 ?_
 refine wvz (v := vf) (oM ((hS.pt 0 rfl).at (o := 4) (nl rfl))) ?_
 refine aq1 ?_
 refine wvz (oI (RowP.up hrf _)) ?_
 refine wvz (oM (Row.pt (RowP.up hrf _) hcy)) ?_
 refine ws_alloc hS rfl rfl rfl rfl ?_
 rintro p4 z hS hk
 have hS : SH _ (_ :: _ :: R) z _ := hS.perm (.cons _ (List.perm_append_singleton _ _))
 refine ws_store 1 hS rfl rfl rfl rfl rfl rfl hzy (nl rfl) ?_
 rintro z hS
 have hS : SH _ (_ :: _ :: R) z _ := hS
 refine w_nil ?_
 have hS : SH s0 (ckP c vp vg va vc vf x0 :: ptC (.ptr p4 0 0) [.str y.name, .int .u64 y.level, yp, yr, yv, yb] :: R) z X := hS
 refine then_n ?_
 repeat refine wc_seq ?_
 refine wc_cut (fun m z => Sub [(0, .ptr c 0 0), (1, .int .i64 (k : Nat)), (4, .ptr p4 0 0)] m ∧ SH s0 (ckP c vp vg va vc vf (tellL x0 ([(manyN y, ⟨74, k, -1⟩)])) :: ptC (.ptr p4 0 0) [.str y.name, .int .u64 y.level, yp, yr, yv, yb] :: R) z X) ?_ ?_
 ·refine aq2 ?_
  refine wvz (oL 1 hS) ?_
  refine wvz (op_len rfl rfl rfl rfl rfl (RowP.slen hyp |>.trans (by rw [lmm]))) ?_
  refine aq2 ?_
  refine w_split (i := 29) rfl (fun h29 => ?_) (fun h29 => ?_)
  ·simp only [dtt, gt_iff_lt] at h29
   refine aq12 ?_
   refine aq6 ?_
   refine wkz (tell_sh hS) ?_
   rintro _ z ⟨hS, rfl⟩
   refine aq0 ?_
   refine cut_n ?_
   exact ⟨(scn rfl (scn rfl (scn rfl (Sub.nil _)))), by first | (rw [tellL, fcc, List.foldl_nil, many_t (by omega)]; exact hS) | (rw [tellL, fcc, List.foldl_nil, many_l (by omega) (by omega) (by omega)]; exact hS)⟩
  simp only [dff, gt_iff_lt] at h29
  refine aq1 ?_
  refine wvz (oL 1 hS) ?_
  refine wvz (op_len rfl rfl rfl rfl rfl (RowP.slen hyr |>.trans (by rw [lmm]))) ?_
  refine aq3 ?_
  refine w_split (i := 35) rfl (fun h35 => ?_) (fun h35 => ?_)
  ·simp only [dtt, gt_iff_lt] at h35
   refine aq12 ?_
   refine wkz (tell_sh hS) ?_
   rintro _ z ⟨hS, rfl⟩
   refine aq0 ?_
   refine cut_n ?_
   exact ⟨(scn rfl (scn rfl (scn rfl (Sub.nil _)))), by first | (rw [tellL, fcc, List.foldl_nil, many_t (by omega)]; exact hS) | (rw [tellL, fcc, List.foldl_nil, many_l (by omega) (by omega) (by omega)]; exact hS)⟩
  simp only [dff, gt_iff_lt] at h35
  refine aq1 ?_
  refine wvz (oL 1 hS) ?_
  refine wvz (op_len rfl rfl rfl rfl rfl (RowP.slen hyv |>.trans (by rw [lmm]))) ?_
  refine aq3 ?_
  refine w_split (i := 41) rfl (fun h41 => ?_) (fun h41 => ?_)
  ·simp only [dtt, gt_iff_lt] at h41
   refine aq6 ?_
   refine wkz (tell_sh hS) ?_
   rintro _ z ⟨hS, rfl⟩
   refine aq0 ?_
   refine cut_n ?_
   exact ⟨(scn rfl (scn rfl (scn rfl (Sub.nil _)))), by first | (rw [tellL, fcc, List.foldl_nil, many_t (by omega)]; exact hS) | (rw [tellL, fcc, List.foldl_nil, many_l (by omega) (by omega) (by omega)]; exact hS)⟩
  simp only [dff, gt_iff_lt] at h41
  refine aq1 ?_
  refine wvz (oL 1 hS) ?_
  refine wvz (oN hsb) ?_
  refine aq3 ?_
  refine wkz (tell_sh hS) ?_
  rintro _ z ⟨hS, rfl⟩
  refine aq0 ?_
  refine cut_n ?_
  exact ⟨(scn rfl (scn rfl (scn rfl (Sub.nil _)))), by first | (rw [tellL, fcc, List.foldl_nil, many_t (by omega)]; exact hS) | (rw [tellL, fcc, List.foldl_nil, many_l (by omega) (by omega) (by omega)]; exact hS)⟩
 clear hS
 rintro m z ⟨hm, hS⟩
 refine then_n ?_
 refine wc_sub hm ?_
 refine aq3 ?_
 refine wvz (v := .int .u64 y.level) (oL 1 hS) ?_
 refine wkz (foreign_ok hS.ok (hS.pt 0 rfl) hnp) ?_
 rintro _ z ⟨hk, rfl⟩
 have hS := hS.mov hk
 refine aq1 ?_
 refine wkz (tell_sh hS) ?_
 rintro _ z ⟨hS, rfl⟩
 refine aq1 ?_
 refine wvz (oL 1 hS) ?_
 refine aq1 ?_
 refine wvz (oL 1 hS) ?_
 refine w_lit (c := [yp, yv]) [[yp], [yv]] rfl rfl rfl rfl rfl rfl rfl (by decide) (by decide) (fill2 hyp.leaf hyv.leaf) (by simp only [List.all_cons, List.all_nil, hyp.leaf, hyv.leaf]; rfl) rfl (by intro c hc; simp only [List.mem_cons, nmn, or_false] at hc; rcases hc with rfl | rfl <;> simp [hyp.leaf, hyv.leaf]) rfl hS.ok ?_
 rintro lv z hlv hk - hlg
 have hS := hS.mov hk
 refine w_call rfl rfl (op_call rfl rfl rfl rfl) (concat_ok (rs := [(yp, y.params), (yv, y.vars)]) hS.ok hlv (by intro p hp; simp only [List.mem_cons, nmn, or_false] at hp; rcases hp with rfl | rfl; exact hyp; exact hyv) (by simp) (by simp; omega)) ?_
 rintro lr z ⟨hk, hlr⟩
 have hS := hS.mov hk
 have hlr : RowP 2 lr ((locsL y).map dC) := by simpa [locsL] using hlr
 have hS : SH s0 (ckP c vp vg va vc vf (tellL x0 (headA x k y ++ (List.range 0).flatMap (locT x k y))) :: ptC (.ptr p4 0 0) [.str y.name, .int .u64 y.level, yp, yr, yv, yb] :: R) z X := hS
 refine aq2 ?_
 refine wvz (op_len rfl rfl rfl rfl rfl (RowP.slen hlr |>.trans (by rw [lmm]))) ?_
 refine aq1 ?_
 refine wc_loop_at (fun jj m z => ∃ i : Nat, jj = (locsL y).length - i ∧ i ≤ (locsL y).length ∧ m = [(0, .ptr c 0 0), (1, .int .i64 (k : Nat)), (4, .ptr p4 0 0), (5, lr), (62, lr), (63, .int .i64 ((locsL y).length : Nat)), (64, .int .i64 (i : Nat))] ∧ SH s0 (ckP c vp vg va vc vf (tellL x0 (headA x k y ++ (List.range i).flatMap (locT x k y))) :: ptC (.ptr p4 0 0) [.str y.name, .int .u64 y.level, yp, yr, yv, yb] :: R) z X) (locsL y).length
  [(0, .ptr c 0 0), (1, .int .i64 (k : Nat)), (4, .ptr p4 0 0), (5, lr), (62, lr), (63, .int .i64 ((locsL y).length : Nat)), (64, .int .i64 ((0 : Nat) : Int))] (scn rfl (scn rfl (scn rfl (scn rfl (scn rfl (scn rfl (scn rfl (Sub.nil _)))))))) ⟨0, by simp, by simp, rfl, hS⟩ ?_
 clear hS
 rintro jj m z ⟨i, rfl, hi, rfl, hS⟩
 refine aq1 ?_
 refine wcd (fun h65 => ?_) (fun h65 => ?_)
 ·refine aq0 ?_
  obtain ⟨d, hd⟩ : ∃ d, (locsL y)[i]? = some d := ⟨_, gee (by omega)⟩
  obtain ⟨hdn, hdl⟩ := hlf2 d (mog hd)
  refine aq1 ?_
  refine wvz (oJ (RowP.up hlr _)) ?_
  refine wvz (oM (Row.mk_pt (RowP.up hlr z.h) hd)) ?_
  refine ws_alloc hS rfl rfl rfl rfl ?_
  rintro p7 z hS hk
  have hS : SH _ (_ :: _ :: _ :: R) z _ := hS.perm (.cons _ (.cons _ (List.perm_append_singleton _ _)))
  refine aq1 ?_
  refine ws_store 2 hS rfl rfl rfl rfl rfl rfl (by rfl) (nl rfl) ?_
  rintro z hS
  have hS : SH _ (_ :: _ :: _ :: R) z _ := hS
  refine aq0 ?_
  have h07 : p7 ≠ c := hS.ne (i := 2) (j := 0) (by decide) rfl rfl (msi.2 rfl) (msi.2 rfl)
  have hS : SH s0 (ckP c vp vg va vc vf (tellL x0 (headA x k y ++ (List.range i).flatMap (locT x k y))) :: ptC (.ptr p4 0 0) [.str y.name, .int .u64 y.level, yp, yr, yv, yb] :: ptC (.ptr p7 0 0) (dC d) :: R) z X := hS
  refine aq0 ?_
  refine wc_early1 (k := 10) (cs := tz Tt 54) (fun p8 => [none, none, none, none, none, none, none, none, none, none, some (p8, tz Tt 54), none, none]) hS (by kernel_rfl) (fun _ => rfl) ?_
  clear hS
  rintro p8 z hS hcE hR
  have hS : SH _ (_ :: _ :: _ :: _ :: R) z _ := hS.perm (.cons _ (.cons _ (.cons _ (List.perm_append_singleton _ _))))
  refine we_val (fun _ => rfl) rfl rfl (op_pure rfl) ?_
  refine we_val (fun _ => rfl) rfl rfl (op_pure rfl) ?_
  refine we_val (fun _ => rfl) rfl rfl (op_fldP rfl rfl rfl rfl (by decide)) ?_
  refine we_load hR (v := .agg [vp, vg, va, vc, vf]) rfl rfl ((hS.pt 0 rfl).at (o := 0) (Nat.zero_le _)) rfl (hS.off (i := 0) (j := 3) (by decide) rfl rfl) rfl rfl ?_
  refine we_val (fun _ => rfl) rfl rfl (op_fldP rfl rfl rfl rfl (by decide)) ?_
  refine we_load hR rfl rfl ((hS.pt 2 rfl).at (nl rfl)) rfl (hS.off (i := 2) (j := 3) (by decide) rfl rfl) rfl rfl ?_
  refine we_call hR (ac1 hcE) rfl rfl (fun _ => rfl) (op_call rfl rfl rfl rfl) (global_ok hR.ok hx hv) (fun _ _ h => h.1) ?_
  rintro _ sQ ⟨-, rfl⟩ hR
  refine we_val (fun _ => rfl) rfl rfl (op_pure rfl) ?_
  refine we_val (fun _ => rfl) rfl rfl (op_pure rfl) ?_
  refine we_val (fun _ => rfl) rfl rfl (op_pure rfl) ?_
  refine we_alloc rfl (.head _) ?_
  refine we_store (old := tz Tt 54) (.head _) hR.ok (ah1 (by kernel_rfl)) rfl rfl rfl rfl rfl rfl (by rfl) ((hS.pt 3 rfl).keep0 hR) ?_
  rintro sE0 hpE0 hkE0
  refine we_val (fun _ => rfl) rfl rfl (op_pure rfl) ?_
  refine we_nil ?_
  have hS := hS.mov hR
  have hS := hS.upd 3 rfl hkE0 (fun g hg => hg) (ptC (.ptr p8 0 0) _) hpE0 (fun g hg => .inl hg)
  generalize sE0 = z at hS ⊢
  have hS : SH _ (_ :: _ :: _ :: _ :: R) z _ := hS
  refine aq2 ?_
  refine wvz (oL 2 hS) ?_
  refine wkz (name_ok hS.ok hdn) ?_
  rintro _ z ⟨hk, rfl⟩
  have hS := hS.mov hk
  refine aq2 ?_
  refine wkz (tell_sh hS) ?_
  rintro _ z ⟨hS, rfl⟩
  refine aq0 ?_
  have hR := Keep.refl (s := z) (hS.ok)
  refine wc_draw (Old z [c]) (by kernel_rfl) rfl ?_
  refine aq3 ?_
  refine wo_split (i := 88) rfl (fun h88 => ?_) (fun h88 => ?_)
  ·refine aq0 ?_
   refine wo_off rfl rfl ?_
   refine wo_off rfl rfl ?_
   refine wo_off rfl rfl ?_
   refine wo_off rfl rfl ?_
   refine wo_off rfl rfl ?_
   refine wo_off rfl rfl ?_
   refine wo_off rfl rfl ?_
   refine aq2 ?_
   refine wo_callX hR (fun _ h => h) rfl rfl (fun _ => rfl) (op_call rfl rfl rfl rfl) (tell_ok hR.ok (Pt.bare ((hS.pt 0 rfl).keep0 hR))) (fun _ _ h => h.1) ?_
   rintro _ sB ⟨-, hpX, rfl⟩ hkX
   refine aq0 ?_
   have hS := hS.mov hR
   have hS := hS.upd 0 rfl hkX (fun g hg => hg) (ckP c vp vg va vc vf _) hpX (fun g hg => .inl hg)
   generalize sB.join z = z at hS ⊢
   have hS : SH s0 (_ :: _ :: _ :: _ :: R) z X := hS
   refine aq3 ?_
   refine wvz (oL 2 hS) ?_
   refine wkz (foreign_ok hS.ok (hS.pt 0 rfl) hnp) ?_
   rintro _ z ⟨hk, rfl⟩
   have hS := hS.mov hk
   refine aq1 ?_
   refine wkz (tell_sh hS) ?_
   rintro _ z ⟨hS, rfl⟩
   refine aq0 ?_
   refine wad ?_
   refine aq1 ?_
   have hS : SH s0 (ckP c vp vg va vc vf (tellL x0 (headA x k y ++ (List.range (i + 1)).flatMap (locT x k y))) :: ptC (.ptr p4 0 0) [.str y.name, .int .u64 y.level, yp, yr, yv, yb] :: R) z X := by
    have e : (List.range (i + 1)).flatMap (locT x k y) = (List.range i).flatMap (locT x k y) ++ locT x k y i := range_flat _ _
    rw [e, ← aas, tellL_app]
    unfold locT
    rw [hd]
    simp only [tellL, fcc, List.foldl_nil, h88, Bool.true_or] at hS ⊢
    exact hS.sub (.cons_cons _ (.cons_cons _ (.cons _ (.cons _ (.refl _)))))
   exact rn ⟨i + 1, rfl, by omega, rfl, hS⟩
  refine aq2 ?_
  refine wo_slice rfl (RowP.nptr hlr) rfl rfl (op_cut (l := none) (h := some i) (l' := 0) (h' := i) rfl rfl (optY_some rfl (natA_cast _ _)) rfl rfl rfl rfl (RowP.up hlr _) rfl rfl (Nat.zero_le _) (by rw [lmm]; exact hi)) ?_
  have hcut : RowP 2 (cutA lr 0 i) (((locsL y).take i).map dC) := Row.cutF hlr hi
  refine aq1 ?_
  refine wo_load hR rfl rfl ((hS.pt 2 rfl).at (nl rfl)) rfl (by simp [AV.gs, h07]) rfl rfl ?_
  refine wo_call0 hR rfl rfl (fun _ => rfl) (op_call rfl rfl rfl rfl) (at103_ok hR.ok (by rw [lmm, List.length_take]; omega) hcut (namR_map (fun _ => ⟨_, rfl⟩) _)) (fun _ _ h => h.1) (by rintro _ _ ⟨-, rfl⟩; rfl) ?_
  rintro _ sA ⟨-, rfl⟩ hR
  refine aq3 ?_
  refine wo_callX hR (fun _ h => h) rfl rfl (fun _ => rfl) (op_call rfl rfl rfl rfl) (tell_ok hR.ok (Pt.bare ((hS.pt 0 rfl).keep0 hR))) (fun _ _ h => h.1) ?_
  rintro _ sB ⟨-, hpX, rfl⟩ hkX
  refine aq0 ?_
  have hS := hS.mov hR
  have hS := hS.upd 0 rfl hkX (fun g hg => hg) (ckP c vp vg va vc vf _) hpX (fun g hg => .inl hg)
  generalize sB.join ⟨sA.ctr, z.h, sA.wr ++ z.wr⟩ = z at hS ⊢
  have hS : SH s0 (_ :: _ :: _ :: _ :: R) z X := hS
  refine aq3 ?_
  refine wvz (oL 2 hS) ?_
  refine wkz (foreign_ok hS.ok (hS.pt 0 rfl) hnp) ?_
  rintro _ z ⟨hk, rfl⟩
  have hS := hS.mov hk
  refine aq1 ?_
  refine wkz (tell_sh hS) ?_
  rintro _ z ⟨hS, rfl⟩
  refine aq0 ?_
  refine wad ?_
  refine aq1 ?_
  have hS : SH s0 (ckP c vp vg va vc vf (tellL x0 (headA x k y ++ (List.range (i + 1)).flatMap (locT x k y))) :: ptC (.ptr p4 0 0) [.str y.name, .int .u64 y.level, yp, yr, yv, yb] :: R) z X := by
   have e : (List.range (i + 1)).flatMap (locT x k y) = (List.range i).flatMap (locT x k y) ++ locT x k y i := range_flat _ _
   rw [e, ← aas, tellL_app]
   unfold locT
   rw [hd]
   simp only [tellL, fcc, List.foldl_nil, h88, Bool.false_or] at hS ⊢
   exact hS.sub (.cons_cons _ (.cons_cons _ (.cons _ (.cons _ (.refl _)))))
  exact rn ⟨i + 1, rfl, by omega, rfl, hS⟩
 obtain rfl : i = (locsL y).length := by omega
 have hS : SH s0 (ckP c vp vg va vc vf (tellL x0 (headA x k y ++ (List.range (locsL y).length).flatMap (locT x k y) ++ (List.range 0).flatMap (resT x k y))) :: ptC (.ptr p4 0 0) [.str y.name, .int .u64 y.level, yp, yr, yv, yb] :: R) z X := by simpa using hS
 refine aq1 ?_
 refine wvz (oL 1 hS) ?_
 refine wvz (op_len rfl rfl rfl rfl rfl (RowP.slen hyr |>.trans (by rw [lmm]))) ?_
 refine aq1 ?_
 refine wc_loop_at (fun jj m z => ∃ i : Nat, jj = y.results.length - i ∧ i ≤ y.results.length ∧ m = [(0, .ptr c 0 0), (1, .int .i64 (k : Nat)), (4, .ptr p4 0 0), (108, yr), (109, .int .i64 (y.results.length : Nat)), (110, .int .i64 (i : Nat))] ∧ SH s0 (ckP c vp vg va vc vf (tellL x0 (headA x k y ++ (List.range (locsL y).length).flatMap (locT x k y) ++ (List.range i).flatMap (resT x k y))) :: ptC (.ptr p4 0 0) [.str y.name, .int .u64 y.level, yp, yr, yv, yb] :: R) z X) y.results.length
  [(0, .ptr c 0 0), (1, .int .i64 (k : Nat)), (4, .ptr p4 0 0), (108, yr), (109, .int .i64 (y.results.length : Nat)), (110, .int .i64 ((0 : Nat) : Int))] (scn rfl (scn rfl (scn rfl (scn rfl (scn rfl (scn rfl (Sub.nil _))))))) ⟨0, by simp, by simp, rfl, hS⟩ ?_
 clear hS
 rintro jj m z ⟨i, rfl, hi, rfl, hS⟩
 refine aq1 ?_
 refine wcd (fun h111 => ?_) (fun h111 => ?_)
 ·refine aq0 ?_
  obtain ⟨l, hl⟩ : ∃ l, y.results[i]? = some l := ⟨_, gee (by omega)⟩
  refine aq0 ?_
  refine wvz (oJ (RowP.up hyr _)) ?_
  refine wvz (oM (Row.mk_pt (RowP.up hyr z.h) hl)) ?_
  refine aq4 ?_
  refine wkz (foreign_ok hS.ok (hS.pt 0 rfl) hnp) ?_
  rintro _ z ⟨hk, rfl⟩
  have hS := hS.mov hk
  refine aq1 ?_
  refine wkz (tell_sh hS) ?_
  rintro _ z ⟨hS, rfl⟩
  refine aq0 ?_
  refine wad ?_
  refine aq1 ?_
  have hS : SH s0 (ckP c vp vg va vc vf (tellL x0 (headA x k y ++ (List.range (locsL y).length).flatMap (locT x k y) ++ (List.range (i + 1)).flatMap (resT x k y))) :: ptC (.ptr p4 0 0) [.str y.name, .int .u64 y.level, yp, yr, yv, yb] :: R) z X := by
   have e : (List.range (i + 1)).flatMap (resT x k y) = (List.range i).flatMap (resT x k y) ++ resT x k y i := range_flat _ _
   rw [e, ← aas, tellL_app]
   unfold resT
   rw [hl]
   exact hS
  exact rn ⟨i + 1, rfl, by omega, rfl, hS⟩
 obtain rfl : i = y.results.length := by omega
 refine aq1 ?_
 refine wvz (oL 1 hS) ?_
 refine w_call rfl rfl (op_call rfl rfl rfl rfl) (ends_ok hS.ok (by rw [kinds, lmm]; exact hy4) (hkr.up _)) ?_
 rintro r z ⟨hk, he⟩
 have hS := hS.mov hk
 obtain ⟨ea, eb, rfl, -⟩ := he.shape
 refine aq11 ?_
 refine w_split (i := 131) rfl (fun h131 => ?_) (fun h131 => ?_)
 ·refine aq6 ?_
  refine wkz (tell_sh hS) ?_
  rintro _ z ⟨hS, rfl⟩
  refine aq1 ?_
  refine wvz (oL 1 hS) ?_
  refine w_call rfl rfl (op_call rfl rfl rfl rfl) (idxF106_ok (q := fun i => (kinds y).getD i 0 == 9) hS.ok (by rw [hbl]; omega) hbr (fun s' i c hk hc => by
      obtain ⟨st, hst⟩ : ∃ st, y.body[i]? = some st := ⟨_, gee (by have := (ges.1 hc).1; rw [← hbl]; exact this)⟩
      obtain ⟨vt, ve, rfl, -⟩ := hbE i st c hst hc
      rw [show (kinds y).getD i 0 = st.kind by rw [kinds, gdd, gmm, hst]; rfl]
      exact clo107_ok hk.ok (hbr.cells _ (mog hc)).2)) ?_
  rintro _ z ⟨hk, rfl⟩
  have hS := hS.mov hk
  have hln : idxQ (fun i => (kinds y).getD i 0 == 9) csb.length = lastN y := by rw [hbl]; rfl
  rw [hln]
  refine aq5 ?_
  refine w_split (i := 145) rfl (fun h145 => ?_) (fun h145 => ?_)
  ·refine aq8 ?_
   refine wkz (tell_sh hS) ?_
   rintro _ z ⟨hS, rfl⟩
   refine aq0 ?_
   refine ⟨_, rfl, ?_, rfl⟩
   rw [headT, tellL_app]
   simp only [headZ, tellL, fcc, List.foldl_nil, h131, h145, Bool.true_or] at hS ⊢
   exact hS.sub (.cons_cons _ (.cons _ (.refl _)))
  refine aq2 ?_
  refine wvz (oL 1 hS) ?_
  refine wvz (oN hsb) ?_
  refine wvz (op_sub rfl rfl (by unfold In64; omega)) ?_
  refine aq3 ?_
  refine wkz (tell_sh hS) ?_
  rintro _ z ⟨hS, rfl⟩
  refine aq0 ?_
  refine ⟨_, rfl, ?_, rfl⟩
  rw [headT, tellL_app]
  simp only [headZ, tellL, fcc, List.foldl_nil, h131, h145, Bool.true_or, Bool.false_or] at hS ⊢
  exact hS.sub (.cons_cons _ (.cons _ (.refl _)))
 refine aq1 ?_
 refine wvz (oL 1 hS) ?_
 refine w_call rfl rfl (op_call rfl rfl rfl rfl) (deep_ok hS.ok (by rw [kinds, lmm]; exact hy4) hkr) ?_
 rintro _ z ⟨hk, rfl⟩
 have hS := hS.mov hk
 rw [show (kinds y).length = y.body.length by rw [kinds, lmm]]
 refine aq3 ?_
 refine wkz (tell_sh hS) ?_
 rintro _ z ⟨hS, rfl⟩
 refine aq1 ?_
 refine wvz (oL 1 hS) ?_
 refine w_call rfl rfl (op_call rfl rfl rfl rfl) (idxF106_ok (q := fun i => (kinds y).getD i 0 == 9) hS.ok (by rw [hbl]; omega) hbr (fun s' i c hk hc => by
     obtain ⟨st, hst⟩ : ∃ st, y.body[i]? = some st := ⟨_, gee (by have := (ges.1 hc).1; rw [← hbl]; exact this)⟩
     obtain ⟨vt, ve, rfl, -⟩ := hbE i st c hst hc
     rw [show (kinds y).getD i 0 = st.kind by rw [kinds, gdd, gmm, hst]; rfl]
     exact clo107_ok hk.ok (hbr.cells _ (mog hc)).2)) ?_
 rintro _ z ⟨hk, rfl⟩
 have hS := hS.mov hk
 have hln : idxQ (fun i => (kinds y).getD i 0 == 9) csb.length = lastN y := by rw [hbl]; rfl
 rw [hln]
 refine aq5 ?_
 refine w_split (i := 145) rfl (fun h145 => ?_) (fun h145 => ?_)
 ·refine aq8 ?_
  refine wkz (tell_sh hS) ?_
  rintro _ z ⟨hS, rfl⟩
  refine aq0 ?_
  refine ⟨_, rfl, ?_, rfl⟩
  rw [headT, tellL_app]
  simp only [headZ, tellL, fcc, List.foldl_nil, h131, h145, Bool.true_or, Bool.false_or] at hS ⊢
  exact hS.sub (.cons_cons _ (.cons _ (.refl _)))
 refine aq2 ?_
 refine wvz (oL 1 hS) ?_
 refine wvz (oN hsb) ?_
 refine wvz (op_sub rfl rfl (by unfold In64; omega)) ?_
 refine aq3 ?_
 refine wkz (tell_sh hS) ?_
 rintro _ z ⟨hS, rfl⟩
 refine aq0 ?_
 refine ⟨_, rfl, ?_, rfl⟩
 rw [headT, tellL_app]
 simp only [headZ, tellL, fcc, List.foldl_nil, h131, h145, Bool.false_or] at hS ⊢
 exact hS.sub (.cons_cons _ (.cons _ (.refl _)))
end Go.Ab
namespace Go.Ab
open Go.Proofs
section
variable {P : Program} {T : Tab} {K : Kn} {nt : NT} {ops : Array Oper} {rest : List Oper} {m : Sy} {z s0 : St} {Q : Sy → St → Prop} {d ty : Nat} {pos : String} {af : Array Edge} {g : Option (Nat × Bool)} {X : List Nat} {L : List Chunk}
theorem w_litT {tt e : TypeId} {n : Nat} {parts : Array (Nat × Operand)} {i ie : TI} {ps : List (Nat × AV)} {c : List AV} (cs : List (List AV)) (hS : SH s0 L z X) (hg : guardY ops m g = some true) (hd : Nat.ble (d + 1) nt.n = true) (hT : T tt = some i) (hs : i.sh = .slice e) (he : T e = some ie) (hp : evPartsY m parts.toList = some ps) (hz : ie.zero.length = ie.size) (h0 : ie.size ≠ 0) (h24 : n * ie.size ≤ 2 ^ 24)
  (hf : fillA (fun n => some (n * ie.size, ie.size)) (List.replicate n ie.zero).flatten ps = some c) (hl : c.all AV.leaf = true) (hc : c = cs.flatten) (hcs : ∀ x ∈ cs, x.length = ie.size ∧ x.all AV.leaf = true) (hn : n = cs.length)
  (k : ∀ lv r z', RowP ie.size r cs → SH s0 L z' X → W P T K nt ops rest ((d, r) :: (d, lv) :: m) z' Q) : W P T K nt ops (⟨some d, .buildSlice tt n parts, ty, pos, af, g⟩ :: rest) m z Q := by
 refine w_lit cs hg hd hT hs he hp hz h0 h24 hf hl hc hcs hn hS.ok ?_
 rintro lv z1 hlv hk hc1 hlg
 have h1 : SH s0 (L ++ [rowC lv ie.size cs]) z1 X := hS.add hk _ ⟨hlv, fun h => by rw [hlg] at h; cases h⟩ (row_newb hk hlv hlg hc1)
 refine ws_told (v := lv) (sz := ie.size) (css := cs) L.length d h1 (by simp) (by unfold Sy.at; rw [nb_t rfl, cond_true]) ?_
 intro r hr h2
 refine k lv r _ hr (h2.sub ?_)
 rw [List.set_append_right _ _ (nlr _), Nat.sub_self]
 exact List.sublist_append_left _ _
end
theorem RowP.egs {sz : Nat} {v : AV} {css : List (List AV)} (k : RowP sz v css) (i : Nat) : (elemA v i).gs = [] := by
 have h := k.gs
 cases v with
 | slc => cases h
 | ro nl xs =>
  unfold elemA
  simp only
  cases xs[i]? <;> rfl
 | _ => rfl
theorem fld_gs {p : AV} {o : Nat} (h : p.gs = []) : (fldA p o).gs = [] := by
 cases p with
 | ptr => cases h
 | _ => rfl
theorem no_gs {p : AV} {X : List Nat} (h : p.gs = []) : ∀ g ∈ p.gs, g ∉ X := by rw [h]; intro g h; cases h
def longN (x : StmtL) : Bool := decide (0 ≤ idxQ (fun j => decide (((x.exprs.getD j []).length : Int) > 48)) x.exprs.length)
noncomputable def stmtA (k i : Nat) (x : StmtL) : List (Bool × Flt) := [(!fitsN x, ⟨50, k, i⟩), (longN x || decide ((x.exprs.length : Int) > 8), ⟨74, k, i⟩)]
def tgtT (s : SrcL) (k i : Nat) (x : StmtL) (j : Nat) : List (Bool × Flt) := match x.targets[j]? with
 | none => []
 | some nm => useT s k i nm [1, 2]
def nameT (s : SrcL) (k i : Nat) (x : StmtL) : List (Bool × Flt) := if x.kind = 2 then useT s k i x.name [3] else if x.kind = 3 then useT s k i x.name [4] else if x.kind = 4 then useT s k i x.name [5] else []
def termT (s : SrcL) (k i : Nat) (ts : List TermL) (n : Nat) : List (Bool × Flt) := match ts[n]? with
 | none => []
 | some t => if t.kind = 2 then useT s k i t.name [1, 2] else if t.kind = 3 then useT s k i t.name [3] else []
def exprT (s : SrcL) (k i : Nat) (x : StmtL) (j : Nat) : List (Bool × Flt) := match x.exprs[j]? with
 | none => []
 | some ts => (List.range ts.length).flatMap (termT s k i ts)
def retT (k : Nat) (y : FunL) (i : Nat) (x : StmtL) : List (Bool × Flt) := if x.kind = 9 then [((x.exprs.length : Int) != (y.results.length : Int), ⟨73, k, i⟩)] else []
def callT (s : SrcL) (k i : Nat) (x : StmtL) : List (Bool × Flt) := if x.kind = 4 ∧ (fN s k x.name).1 = 5 then match s.funcs[(fN s k x.name).2.toNat]? with
 | none => []
 | some g => [((x.exprs.length : Int) != (g.params.length : Int) || (decide ((x.targets.length : Int) > 0) && (x.targets.length : Int) != (g.results.length : Int)), ⟨73, k, i⟩)]
 else []
noncomputable def stmtB (s : SrcL) (k i : Nat) (x : StmtL) : List (Bool × Flt) := stmtA k i x ++ (List.range x.targets.length).flatMap (tgtT s k i x) ++ nameT s k i x ++ (List.range x.exprs.length).flatMap (exprT s k i x)
noncomputable def stmtT (s : SrcL) (k : Nat) (y : FunL) (i : Nat) (x : StmtL) : List (Bool × Flt) := stmtB s k i x ++ retT k y i x ++ callT s k i x
theorem fN_fn {x : SrcL} {f : Int} {nm : ByteArray} (h : (fN x f nm).1 = 5) : ∃ (q : Nat) (g : FunL), (fN x f nm).2 = q ∧ x.funcs[q]? = some g := by
 have key : 0 ≤ fiI (x.funcs.map FunL.name) nm → ∃ (q : Nat) (g : FunL), fiI (x.funcs.map FunL.name) nm = q ∧ x.funcs[q]? = some g := fun h0 => by
  have h1 := (fiI_lt (x.funcs.map FunL.name) nm).2
  rw [lmm] at h1
  obtain ⟨q, hq⟩ := Int.eq_ofNat_of_zero_le h0
  exact ⟨q, x.funcs[q]'(by omega), hq, gee (by omega)⟩
 unfold fN at h ⊢
 split at h
 ·cases h
 ·rename_i h0
  rw [if_neg h0]
  unfold gN at h ⊢
  split at h
  ·cases h
  ·rename_i h1
   rw [if_neg h1]
   split at h
   ·cases h
   ·rename_i h2
    rw [if_neg h2]
    split at h
    ·cases h
    ·rename_i h3
     rw [if_neg h3]
     split at h
     ·rename_i h4
      rw [if_pos h4]
      exact key h4
     ·cases h
set_option maxRecDepth 10000 in
set_option maxHeartbeats 8000000 in
theorem clo110_ok {s : St} {v : AV} {ts : List TermL} (hok : s.Ok) (hv : RowP 3 v (ts.map tC)) :
  CallS Tryz.prog Tt Kt 71 [v] s fun r s' => Keep [] s s' ∧ r = .bool (decide ((ts.length : Int) > 48)) := by
 refine call_of (fn := Tryz.f71) (nt := 6) Tryz.func71 rfl rfl rfl ?_
 refine aq0 ?_
 have hS := SH.start hok
 have hK := hS.K
 refine aq2 ?_
 refine wvz (op_len rfl rfl rfl rfl rfl (RowP.slen hv |>.trans (by rw [lmm]))) ?_
 refine aq2 ?_
 exact ⟨_, rfl, hK, rfl⟩
set_option maxRecDepth 10000 in
set_option maxHeartbeats 8000000 in
theorem contF109_ok {s : St} {v : AV} {css : List (List AV)} {q : Nat → Bool} {gf : FuncId} {caps : List AV} (hok : s.Ok) (hl : css.length ≤ 8388608) (hv : RowP 1 v css)
  (hcl' : ∀ (s' : St) (i : Nat) (c : List AV), Keep [] s s' → css[i]? = some c → CallS Tryz.prog Tt Kt gf (packC c :: caps) s' fun r s'' => Keep [] s' s'' ∧ r = .bool (q i)) :
  CallS Tryz.prog Tt Kt 70 [v, .fn gf caps] s fun r s' => Keep [] s s' ∧ r = .bool (decide (0 ≤ idxQ q css.length)) := by
 refine call_of (fn := Tryz.f70) (nt := 9) Tryz.func70 rfl rfl rfl ?_
 refine aq0 ?_
 have hS := SH.start hok
 have hK := hS.K
 refine aq3 ?_
 refine wkz (idxF140_ok hS.ok hl hv (fun s1 i c hk hc => hcl' s1 i c (hK.two hk) hc)) ?_
 rintro _ z ⟨hk, rfl⟩
 have hS := hS.mov hk
 have hK := hS.K
 refine aq2 ?_
 exact ⟨_, rfl, hK, rfl⟩
set_option maxRecDepth 10000 in
set_option maxHeartbeats 8000000 in
theorem stmt_ok {s0 z : St} {X : List Nat} {R : List Chunk} {c k i : Nat} {vp vg va vc vf : AV} {x : SrcL} {y : FunL} {st : StmtL} {x0 : Flt} (hS : SH s0 (ckP c vp vg va vc vf x0 :: R) z X) (hx : x.small) (hv : SrcP x [vp, vg, va, vc, vf]) (hy : x.funcs[k]? = some y) (hst : y.body[i]? = some st) :
  CallS Tryz.prog Tt Kt 32 [.ptr c 0 0, .int .i64 (k : Nat), .int .i64 (i : Nat)] z fun r z' => SH s0 (ckP c vp vg va vc vf (tellL x0 (stmtT x k y i st)) :: R) z' X ∧ r = .tup [] := by
 obtain ⟨_, _, _, _, _, e0, hvp, hvg, hva, hvc, csf, hrf, hlf, hF⟩ := id hv
 cases e0
 obtain ⟨hl1, hl2, hl3, hl4, hl5, hsm⟩ := id hx
 obtain ⟨cy, hcy⟩ : ∃ c, csf[k]? = some c := ⟨_, gee (by rw [hlf]; exact (ges.1 hy).1)⟩
 have hkl := (ges.1 hy).1
 obtain ⟨yp, yr, yv, yb, rfl, hyp, hyr, hyv, hyb⟩ := hF k y cy hy hcy
 obtain ⟨hy1, hy2, hy3, hy4, hy5⟩ := id (hsm y (mog hy))
 obtain ⟨csb, hbr, hbl, hbE⟩ := id hyb
 have hsl := (ges.1 hst).1
 obtain ⟨cst, hcst⟩ : ∃ c, csb[i]? = some c := ⟨_, gee (by omega)⟩
 have hsr := hbE i st cst hst hcst
 obtain ⟨vt, ve, rfl, hvt, hve⟩ := id hsr
 have hss := hy5 st (mog hst)
 obtain ⟨hx1, hx2, hx3⟩ := id hss
 obtain ⟨cse, hre, hle, hTE⟩ := id hve
 have hse : ve.slen = some st.exprs.length := by rw [hre.slen, hle]
 have hst1 : vt.slen = some st.targets.length := by have := RowP.slen hvt; rwa [lmm] at this
 have hzs : ([.int .i64 st.kind, .str st.name, vt, ve] : List AV).all AV.leaf = true := (hbr.cells _ (mog hcst)).2
 refine call_of (fn := Tryz.f32) (nt := 203) Tryz.func32 rfl rfl rfl ?_
 refine aq4 ?_
 refine wvz (v := vf) (oM ((hS.pt 0 rfl).at (o := 4) (nl rfl))) ?_
 refine aq1 ?_
 refine wvz (oI (RowP.up hrf _)) ?_
 refine wvz (oF (Row.pt (RowP.up hrf z.h) hcy)) ?_
 refine wvz (v := yb) (oM (Pt.fld (Row.pt (RowP.up hrf z.h) hcy) _ (nl rfl))) ?_
 refine aq1 ?_
 refine wvz (oI (RowP.up hbr _)) ?_
 refine wvz (oM (Row.pt (RowP.up hbr z.h) hcst)) ?_
 refine ws_alloc hS rfl rfl rfl rfl ?_
 rintro p6 z hS hk
 have hS : SH _ (_ :: _ :: R) z _ := hS.perm (.cons _ (List.perm_append_singleton _ _))
 have hK := hS.K
 refine ws_store 1 hS rfl rfl rfl rfl rfl rfl (by assumption) (nl rfl) ?_
 rintro z hS
 have hS : SH _ (_ :: _ :: R) z _ := hS
 refine aq0 ?_
 have hS : SH s0 (ckP c vp vg va vc vf x0 :: ptC (.ptr p6 0 0) [.int .i64 st.kind, .str st.name, vt, ve] :: R) z X := hS
 refine aq1 ?_
 refine wvz (oL 1 hS) ?_
 refine wkz (fits_ok hS.ok hss hsr) ?_
 rintro _ z ⟨hk, rfl⟩
 have hS := hS.mov hk
 refine aq3 ?_
 refine wkz (tell_sh hS) ?_
 rintro _ z ⟨hS, rfl⟩
 refine aq1 ?_
 refine wvz (oL 1 hS) ?_
 refine w_call rfl rfl (op_call rfl rfl rfl rfl) (contF109_ok (q := fun j => decide (((st.exprs.getD j []).length : Int) > 48)) hS.ok (by omega) hre (fun s1 j c hk hc => by
     obtain ⟨ts, hts⟩ : ∃ ts, st.exprs[j]? = some ts := ⟨_, gee (by have := (ges.1 hc).1; omega)⟩
     obtain ⟨tv, rfl, htv⟩ := hTE j ts c hts hc
     rw [show st.exprs.getD j [] = ts by rw [gdd, hts]; rfl]
     exact clo110_ok hk.ok htv)) ?_
 rintro _ z ⟨hk, rfl⟩
 have hS := hS.mov hk
 have hK := hS.K
 rw [show decide (0 ≤ idxQ (fun j => decide (((st.exprs.getD j []).length : Int) > 48)) cse.length) = longN st by rw [hle]; rfl]
 refine wvz (op_pure rfl) ?_
 refine w_nil ?_
 refine then_n ?_
 repeat refine wc_seq ?_
 refine wc_cut (fun m z => Sub [(0, .ptr c 0 0), (1, .int .i64 (k : Nat)), (2, .int .i64 (i : Nat)), (6, .ptr p6 0 0)] m ∧ SH s0 (ckP c vp vg va vc vf (tellL x0 (stmtA k i st ++ (List.range 0).flatMap (tgtT x k i st))) :: ptC (.ptr p6 0 0) [.int .i64 st.kind, .str st.name, vt, ve] :: R) z X) ?_ ?_
 ·refine aq3 ?_
  refine w_split (i := 41) rfl (fun h41 => ?_) (fun h41 => ?_)
  ·refine aq7 ?_
   refine wkz (tell_sh hS) ?_
   rintro _ z ⟨hS, rfl⟩
   refine aq0 ?_
   refine cut_n ?_
   refine ⟨(scn rfl (scn rfl (scn rfl (scn rfl (Sub.nil _))))), ?_⟩
   rw [List.range_zero, List.flatMap_nil, List.append_nil, stmtA]
   simp only [tellL, fcc, List.foldl_nil, h41, Bool.true_or] at hS ⊢
   exact hS
  refine aq1 ?_
  refine wvz (oL 1 hS) ?_
  refine wvz (oN hse) ?_
  refine aq4 ?_
  refine wkz (tell_sh hS) ?_
  rintro _ z ⟨hS, rfl⟩
  refine aq0 ?_
  refine cut_n ?_
  refine ⟨(scn rfl (scn rfl (scn rfl (scn rfl (Sub.nil _))))), ?_⟩
  rw [List.range_zero, List.flatMap_nil, List.append_nil, stmtA]
  simp only [tellL, fcc, List.foldl_nil, h41, Bool.false_or] at hS ⊢
  exact hS
 clear hS hK
 rintro m z ⟨hm, hS⟩
 have hK := hS.K
 refine then_n ?_
 refine wc_sub hm ?_
 refine aq1 ?_
 refine wvz (v := vt) (oL 1 hS) ?_
 refine wvz (oN hst1) ?_
 refine aq1 ?_
 refine wc_loop_at (fun jj m z => ∃ j : Nat, jj = st.targets.length - j ∧ j ≤ st.targets.length ∧ m = [(0, .ptr c 0 0), (1, .int .i64 (k : Nat)), (2, .int .i64 (i : Nat)), (6, .ptr p6 0 0), (51, vt), (52, .int .i64 (st.targets.length : Nat)), (53, .int .i64 (j : Nat))] ∧ SH s0 (ckP c vp vg va vc vf (tellL x0 (stmtA k i st ++ (List.range j).flatMap (tgtT x k i st))) :: ptC (.ptr p6 0 0) [.int .i64 st.kind, .str st.name, vt, ve] :: R) z X) st.targets.length
  [(0, .ptr c 0 0), (1, .int .i64 (k : Nat)), (2, .int .i64 (i : Nat)), (6, .ptr p6 0 0), (51, vt), (52, .int .i64 (st.targets.length : Nat)), (53, .int .i64 ((0 : Nat) : Int))] (scn rfl (scn rfl (scn rfl (scn rfl (scn rfl (scn rfl (scn rfl (Sub.nil _)))))))) ⟨0, by simp, by simp, rfl, hS⟩ ?_
 clear hS hK
 rintro jj m z ⟨j, rfl, hj, rfl, hS⟩
 have hK := hS.K
 refine aq1 ?_
 refine wcd (fun h54 => ?_) (fun h54 => ?_)
 ·refine aq0 ?_
  obtain ⟨tn, htn⟩ : ∃ d, st.targets[j]? = some d := ⟨_, gee (by omega)⟩
  refine aq0 ?_
  refine wvz (oJ (RowP.up hvt _)) ?_
  refine wvz (oM (Row.mk_pt (RowP.up hvt z.h) htn)) ?_
  refine aq5 ?_
  refine w_litT (c := [.int .i64 1, .int .i64 2]) [[.int .i64 1], [.int .i64 2]] hS rfl rfl rfl rfl rfl rfl rfl (by decide) (by decide) rfl rfl rfl (by intro c hc; simp only [List.mem_cons, nmn, or_false] at hc; rcases hc with rfl | rfl <;> exact ⟨rfl, rfl⟩) rfl ?_
  clear hS hK
  rintro - l61 z hl61 hS
  refine w_call rfl rfl (op_call rfl rfl rfl rfl) (use_ok (ks := [1, 2]) hS hx hv (by decide) hl61) ?_
  clear hS
  rintro _ z ⟨hS, rfl⟩
  refine aq0 ?_
  refine wad ?_
  refine aq1 ?_
  have hS : SH s0 (ckP c vp vg va vc vf (tellL x0 (stmtA k i st ++ (List.range (j + 1)).flatMap (tgtT x k i st))) :: ptC (.ptr p6 0 0) [.int .i64 st.kind, .str st.name, vt, ve] :: R) z X := by
   have e : (List.range (j + 1)).flatMap (tgtT x k i st) = (List.range j).flatMap (tgtT x k i st) ++ tgtT x k i st j := range_flat _ _
   rw [e, ← aas, tellL_app, show tgtT x k i st j = useT x k i tn [1, 2] by unfold tgtT; rw [htn]]
   exact hS
  exact rn ⟨j + 1, rfl, by omega, rfl, hS⟩
 obtain rfl : j = st.targets.length := by omega
 refine aq1 ?_
 refine wvz (v := .int .i64 st.kind) (oL 1 hS) ?_
 refine w_nil ?_
 refine then_n ?_
 repeat refine wc_seq ?_
 refine wc_cut (fun m z => Sub [(0, .ptr c 0 0), (1, .int .i64 (k : Nat)), (2, .int .i64 (i : Nat)), (6, .ptr p6 0 0)] m ∧ SH s0 (ckP c vp vg va vc vf (tellL x0 (stmtA k i st ++ (List.range st.targets.length).flatMap (tgtT x k i st) ++ nameT x k i st ++ (List.range 0).flatMap (exprT x k i st))) :: ptC (.ptr p6 0 0) [.int .i64 st.kind, .str st.name, vt, ve] :: R) z X) ?_ ?_
 ·refine aq2 ?_
  refine wcb (fun h66 => ?_) (fun h66 => ?_)
  ·refine aq4 ?_
   refine wvz (v := .str st.name) (oL 1 hS) ?_
   refine w_litT (c := [.int .i64 3]) [[.int .i64 3]] hS rfl rfl rfl rfl rfl rfl rfl (by decide) (by decide) rfl rfl rfl (by intro c hc; simp only [List.mem_cons, nmn, or_false] at hc; rcases hc with rfl <;> exact ⟨rfl, rfl⟩) rfl ?_
   clear hS hK
   rintro - l73 z hl73 hS
   refine w_call rfl rfl (op_call rfl rfl rfl rfl) (use_ok (ks := [3]) hS hx hv (by decide) hl73) ?_
   clear hS
   rintro _ z ⟨hS, rfl⟩
   refine aq0 ?_
   refine cut_n ?_
   refine ⟨(scn rfl (scn rfl (scn rfl (scn rfl (Sub.nil _))))), ?_⟩
   rw [List.range_zero, List.flatMap_nil, List.append_nil, tellL_app, nameT]
   first
   | (rw [if_pos h66]; exact hS)
   | (rw [if_neg h66, if_pos h75]; exact hS)
   | (rw [if_neg h66, if_neg h75, if_pos h84]; exact hS)
   | (rw [if_neg h66, if_neg h75, if_neg h84]; exact hS)
  refine aq2 ?_
  refine wcb (fun h75 => ?_) (fun h75 => ?_)
  ·refine aq4 ?_
   refine wvz (v := .str st.name) (oL 1 hS) ?_
   refine w_litT (c := [.int .i64 4]) [[.int .i64 4]] hS rfl rfl rfl rfl rfl rfl rfl (by decide) (by decide) rfl rfl rfl (by intro c hc; simp only [List.mem_cons, nmn, or_false] at hc; rcases hc with rfl <;> exact ⟨rfl, rfl⟩) rfl ?_
   clear hS hK
   rintro - l82 z hl82 hS
   refine w_call rfl rfl (op_call rfl rfl rfl rfl) (use_ok (ks := [4]) hS hx hv (by decide) hl82) ?_
   clear hS
   rintro _ z ⟨hS, rfl⟩
   refine aq0 ?_
   refine cut_n ?_
   refine ⟨(scn rfl (scn rfl (scn rfl (scn rfl (Sub.nil _))))), ?_⟩
   rw [List.range_zero, List.flatMap_nil, List.append_nil, tellL_app, nameT]
   first
   | (rw [if_pos h66]; exact hS)
   | (rw [if_neg h66, if_pos h75]; exact hS)
   | (rw [if_neg h66, if_neg h75, if_pos h84]; exact hS)
   | (rw [if_neg h66, if_neg h75, if_neg h84]; exact hS)
  refine aq2 ?_
  refine wcb (fun h84 => ?_) (fun h84 => ?_)
  ·refine aq4 ?_
   refine wvz (v := .str st.name) (oL 1 hS) ?_
   refine w_litT (c := [.int .i64 5]) [[.int .i64 5]] hS rfl rfl rfl rfl rfl rfl rfl (by decide) (by decide) rfl rfl rfl (by intro c hc; simp only [List.mem_cons, nmn, or_false] at hc; rcases hc with rfl <;> exact ⟨rfl, rfl⟩) rfl ?_
   clear hS hK
   rintro - l91 z hl91 hS
   refine w_call rfl rfl (op_call rfl rfl rfl rfl) (use_ok (ks := [5]) hS hx hv (by decide) hl91) ?_
   clear hS
   rintro _ z ⟨hS, rfl⟩
   refine aq0 ?_
   refine cut_n ?_
   refine ⟨(scn rfl (scn rfl (scn rfl (scn rfl (Sub.nil _))))), ?_⟩
   rw [List.range_zero, List.flatMap_nil, List.append_nil, tellL_app, nameT]
   first
   | (rw [if_pos h66]; exact hS)
   | (rw [if_neg h66, if_pos h75]; exact hS)
   | (rw [if_neg h66, if_neg h75, if_pos h84]; exact hS)
   | (rw [if_neg h66, if_neg h75, if_neg h84]; exact hS)
  refine aq0 ?_
  refine cut_n ?_
  refine ⟨(scn rfl (scn rfl (scn rfl (scn rfl (Sub.nil _))))), ?_⟩
  rw [List.range_zero, List.flatMap_nil, List.append_nil, tellL_app, nameT]
  first
  | (rw [if_pos h66]; exact hS)
  | (rw [if_neg h66, if_pos h75]; exact hS)
  | (rw [if_neg h66, if_neg h75, if_pos h84]; exact hS)
  | (rw [if_neg h66, if_neg h75, if_neg h84]; exact hS)
 clear hS hK
 rintro m z ⟨hm, hS⟩
 have hK := hS.K
 refine wc_sub hm ?_
 refine aq1 ?_
 refine wvz (v := ve) (oL 1 hS) ?_
 refine wvz (oN hse) ?_
 refine aq1 ?_
 refine wc_loop_at (fun jj m z => ∃ j : Nat, jj = st.exprs.length - j ∧ j ≤ st.exprs.length ∧ m = [(0, .ptr c 0 0), (1, .int .i64 (k : Nat)), (2, .int .i64 (i : Nat)), (6, .ptr p6 0 0), (94, ve), (95, .int .i64 (st.exprs.length : Nat)), (96, .int .i64 (j : Nat))] ∧ SH s0 (ckP c vp vg va vc vf (tellL x0 (stmtA k i st ++ (List.range st.targets.length).flatMap (tgtT x k i st) ++ nameT x k i st ++ (List.range j).flatMap (exprT x k i st))) :: ptC (.ptr p6 0 0) [.int .i64 st.kind, .str st.name, vt, ve] :: R) z X) st.exprs.length
  [(0, .ptr c 0 0), (1, .int .i64 (k : Nat)), (2, .int .i64 (i : Nat)), (6, .ptr p6 0 0), (94, ve), (95, .int .i64 (st.exprs.length : Nat)), (96, .int .i64 ((0 : Nat) : Int))] (scn rfl (scn rfl (scn rfl (scn rfl (scn rfl (scn rfl (scn rfl (Sub.nil _)))))))) ⟨0, by simp, by simp, rfl, hS⟩ ?_
 clear hS hK
 rintro jj m z ⟨j, rfl, hj, rfl, hS⟩
 have hK := hS.K
 refine aq1 ?_
 refine wcd (fun h97 => ?_) (fun h97 => ?_)
 ·refine aq0 ?_
  obtain ⟨ts, hts⟩ : ∃ d, st.exprs[j]? = some d := ⟨_, gee (by omega)⟩
  obtain ⟨ct, hct⟩ : ∃ c, cse[j]? = some c := ⟨_, gee (by omega)⟩
  obtain ⟨tv, rfl, htv⟩ := hTE j ts ct hts hct
  have hsts := hx3 ts (mog hts)
  have hte : exprT x k i st j = (List.range ts.length).flatMap (termT x k i ts) := by unfold exprT; rw [hts]
  refine aq0 ?_
  refine wvz (oI (RowP.up hre _)) ?_
  refine wvz (v := tv) (oM (Row.pt (RowP.up hre z.h) hct)) ?_
  refine aq2 ?_
  refine wvz (op_len rfl rfl rfl rfl rfl (RowP.slen htv |>.trans (by rw [lmm]))) ?_
  refine aq1 ?_
  refine wc_loop_at (fun jj m z => ∃ n : Nat, jj = ts.length - n ∧ n ≤ ts.length ∧ m = [(0, .ptr c 0 0), (1, .int .i64 (k : Nat)), (2, .int .i64 (i : Nat)), (6, .ptr p6 0 0), (94, ve), (95, .int .i64 (st.exprs.length : Nat)), (96, .int .i64 (j : Nat)), (100, tv), (101, .int .i64 (ts.length : Nat)), (102, .int .i64 (n : Nat))] ∧ SH s0 (ckP c vp vg va vc vf (tellL x0 (stmtA k i st ++ (List.range st.targets.length).flatMap (tgtT x k i st) ++ nameT x k i st ++ (List.range j).flatMap (exprT x k i st) ++ (List.range n).flatMap (termT x k i ts))) :: ptC (.ptr p6 0 0) [.int .i64 st.kind, .str st.name, vt, ve] :: R) z X) ts.length
   [(0, .ptr c 0 0), (1, .int .i64 (k : Nat)), (2, .int .i64 (i : Nat)), (6, .ptr p6 0 0), (94, ve), (95, .int .i64 (st.exprs.length : Nat)), (96, .int .i64 (j : Nat)), (100, tv), (101, .int .i64 (ts.length : Nat)), (102, .int .i64 ((0 : Nat) : Int))] (scn rfl (scn rfl (scn rfl (scn rfl (scn rfl (scn rfl (scn rfl (scn rfl (scn rfl (scn rfl (Sub.nil _))))))))))) ⟨0, by simp, by simp, rfl, by simpa using hS⟩ ?_
  clear hS hK
  rintro jj m z ⟨n, rfl, hn, rfl, hS⟩
  have hK := hS.K
  refine aq1 ?_
  refine wcd (fun h103 => ?_) (fun h103 => ?_)
  ·refine aq0 ?_
   obtain ⟨t, ht⟩ : ∃ d, ts[n]? = some d := ⟨_, gee (by omega)⟩
   refine aq0 ?_
   refine wvz (oJ (RowP.up htv _)) ?_
   refine wvz (oM (Row.mk_pt (RowP.up htv z.h) ht)) ?_
   refine ws_alloc hS rfl rfl rfl rfl ?_
   rintro p13 z hS hk
   have hS : SH _ (_ :: _ :: _ :: R) z _ := hS.perm (.cons _ (.cons _ (List.perm_append_singleton _ _)))
   refine ws_store 2 hS rfl rfl rfl rfl rfl rfl (by rfl) (nl rfl) ?_
   rintro z hS
   have hS : SH _ (_ :: _ :: _ :: R) z _ := hS
   have hK := hS.K
   refine aq0 ?_
   have hS : SH s0 (ckP c vp vg va vc vf (tellL x0 (stmtA k i st ++ (List.range st.targets.length).flatMap (tgtT x k i st) ++ nameT x k i st ++ (List.range j).flatMap (exprT x k i st) ++ (List.range n).flatMap (termT x k i ts))) :: ptC (.ptr p6 0 0) [.int .i64 st.kind, .str st.name, vt, ve] :: ptC (.ptr p13 0 0) (tC t) :: R) z X := hS
   refine aq1 ?_
   refine wvz (oL 2 hS) ?_
   refine aq2 ?_
   refine wcb (fun h108 => ?_) (fun h108 => ?_)
   ·refine aq4 ?_
    refine wvz (oL 2 hS) ?_
    refine w_litT (c := [.int .i64 1, .int .i64 2]) [[.int .i64 1], [.int .i64 2]] hS rfl rfl rfl rfl rfl rfl rfl (by decide) (by decide) rfl rfl rfl (by intro c hc; simp only [List.mem_cons, nmn, or_false] at hc; rcases hc with rfl | rfl <;> exact ⟨rfl, rfl⟩) rfl ?_
    clear hS hK
    rintro - l115 z hl115 hS
    refine w_call rfl rfl (op_call rfl rfl rfl rfl) (use_ok (ks := [1, 2]) hS hx hv (by decide) hl115) ?_
    clear hS
    rintro _ z ⟨hS, rfl⟩
    refine aq0 ?_
    refine wad ?_
    refine aq1 ?_
    have hS : SH s0 (ckP c vp vg va vc vf (tellL x0 (stmtA k i st ++ (List.range st.targets.length).flatMap (tgtT x k i st) ++ nameT x k i st ++ (List.range j).flatMap (exprT x k i st) ++ (List.range (n + 1)).flatMap (termT x k i ts))) :: ptC (.ptr p6 0 0) [.int .i64 st.kind, .str st.name, vt, ve] :: R) z X := by
     have e : (List.range (n + 1)).flatMap (termT x k i ts) = (List.range n).flatMap (termT x k i ts) ++ termT x k i ts n := range_flat _ _
     rw [e, ← aas, tellL_app]
     unfold termT
     rw [ht]
     simp only
     first
     | (rw [if_pos h108]; exact hS.sub (.cons_cons _ (.cons_cons _ (.cons _ (.refl _)))))
     | (rw [if_neg h108, if_pos h117]; exact hS.sub (.cons_cons _ (.cons_cons _ (.cons _ (.refl _)))))
     | (rw [if_neg h108, if_neg h117]; exact hS.sub (.cons_cons _ (.cons_cons _ (.cons _ (.refl _)))))
    exact rn ⟨n + 1, rfl, by omega, rfl, hS⟩
   refine aq2 ?_
   refine wcb (fun h117 => ?_) (fun h117 => ?_)
   ·refine aq4 ?_
    refine wvz (oL 2 hS) ?_
    refine w_litT (c := [.int .i64 3]) [[.int .i64 3]] hS rfl rfl rfl rfl rfl rfl rfl (by decide) (by decide) rfl rfl rfl (by intro c hc; simp only [List.mem_cons, nmn, or_false] at hc; rcases hc with rfl <;> exact ⟨rfl, rfl⟩) rfl ?_
    clear hS hK
    rintro - l124 z hl124 hS
    refine w_call rfl rfl (op_call rfl rfl rfl rfl) (use_ok (ks := [3]) hS hx hv (by decide) hl124) ?_
    clear hS
    rintro _ z ⟨hS, rfl⟩
    refine aq0 ?_
    refine wad ?_
    refine aq1 ?_
    have hS : SH s0 (ckP c vp vg va vc vf (tellL x0 (stmtA k i st ++ (List.range st.targets.length).flatMap (tgtT x k i st) ++ nameT x k i st ++ (List.range j).flatMap (exprT x k i st) ++ (List.range (n + 1)).flatMap (termT x k i ts))) :: ptC (.ptr p6 0 0) [.int .i64 st.kind, .str st.name, vt, ve] :: R) z X := by
     have e : (List.range (n + 1)).flatMap (termT x k i ts) = (List.range n).flatMap (termT x k i ts) ++ termT x k i ts n := range_flat _ _
     rw [e, ← aas, tellL_app]
     unfold termT
     rw [ht]
     simp only
     first
     | (rw [if_pos h108]; exact hS.sub (.cons_cons _ (.cons_cons _ (.cons _ (.refl _)))))
     | (rw [if_neg h108, if_pos h117]; exact hS.sub (.cons_cons _ (.cons_cons _ (.cons _ (.refl _)))))
     | (rw [if_neg h108, if_neg h117]; exact hS.sub (.cons_cons _ (.cons_cons _ (.cons _ (.refl _)))))
    exact rn ⟨n + 1, rfl, by omega, rfl, hS⟩
   refine aq0 ?_
   refine wad ?_
   refine aq1 ?_
   have hS : SH s0 (ckP c vp vg va vc vf (tellL x0 (stmtA k i st ++ (List.range st.targets.length).flatMap (tgtT x k i st) ++ nameT x k i st ++ (List.range j).flatMap (exprT x k i st) ++ (List.range (n + 1)).flatMap (termT x k i ts))) :: ptC (.ptr p6 0 0) [.int .i64 st.kind, .str st.name, vt, ve] :: R) z X := by
    have e : (List.range (n + 1)).flatMap (termT x k i ts) = (List.range n).flatMap (termT x k i ts) ++ termT x k i ts n := range_flat _ _
    rw [e, ← aas, tellL_app]
    unfold termT
    rw [ht]
    simp only
    first
    | (rw [if_pos h108]; exact hS.sub (.cons_cons _ (.cons_cons _ (.cons _ (.refl _)))))
    | (rw [if_neg h108, if_pos h117]; exact hS.sub (.cons_cons _ (.cons_cons _ (.cons _ (.refl _)))))
    | (rw [if_neg h108, if_neg h117]; exact hS.sub (.cons_cons _ (.cons_cons _ (.cons _ (.refl _)))))
   exact rn ⟨n + 1, rfl, by omega, rfl, hS⟩
  obtain rfl : n = ts.length := by omega
  refine aq0 ?_
  refine wad ?_
  refine aq1 ?_
  have hS : SH s0 (ckP c vp vg va vc vf (tellL x0 (stmtA k i st ++ (List.range st.targets.length).flatMap (tgtT x k i st) ++ nameT x k i st ++ (List.range (j + 1)).flatMap (exprT x k i st))) :: ptC (.ptr p6 0 0) [.int .i64 st.kind, .str st.name, vt, ve] :: R) z X := by
   have e : (List.range (j + 1)).flatMap (exprT x k i st) = (List.range j).flatMap (exprT x k i st) ++ exprT x k i st j := range_flat _ _
   rw [e, hte, ← aas]
   exact hS
  exact rn ⟨j + 1, rfl, by omega, rfl, hS⟩
 obtain rfl : j = st.exprs.length := by omega
 have hS : SH s0 (ckP c vp vg va vc vf (tellL x0 (stmtB x k i st)) :: ptC (.ptr p6 0 0) [.int .i64 st.kind, .str st.name, vt, ve] :: R) z X := hS
 refine aq1 ?_
 refine wvz (v := .int .i64 st.kind) (oL 1 hS) ?_
 refine aq1 ?_
 refine wcb (fun h130 => ?_) (fun h130 => ?_)
 ·have hR := Keep.refl (s := z) (hK.ok)
  refine wc_draw (Old z [c]) (by kernel_rfl) rfl ?_
  refine aq2 ?_
  refine wo_load hR (v := ve) rfl rfl ((hS.pt 1 rfl).at (nl rfl)) rfl (hS.off (i := 1) (j := 0) (by decide) rfl rfl) rfl rfl ?_
  refine wov (oN hse) ?_
  refine aq4 ?_
  refine wo_loadO (v := vf) rfl rfl ((hS.pt 0 rfl).at (o := 4) (nl rfl)) rfl rfl rfl ?_
  refine aq1 ?_
  refine wov (oI (RowP.up hrf _)) ?_
  refine wov (oF (Row.pt (RowP.up hrf z.h) hcy)) ?_
  refine wol hR (v := yr) (Pt.fld (Row.pt (RowP.up hrf z.h) hcy) _ (nl rfl)) (no_gs (fld_gs (RowP.egs hrf _))) ?_
  refine wov (op_len rfl rfl rfl rfl rfl (RowP.slen hyr |>.trans (by rw [lmm]))) ?_
  refine aq3 ?_
  refine wo_callX hR (fun _ h => h) rfl rfl (fun _ => rfl) (op_call rfl rfl rfl rfl) (tell_ok hR.ok (Pt.bare ((hS.pt 0 rfl).keep0 hR))) (fun _ _ h => h.1) ?_
  rintro _ sB ⟨-, hpX, rfl⟩ hkX
  refine aq0 ?_
  have hS := hS.mov hR
  have hS := hS.upd 0 rfl hkX (fun g hg => hg) (ckP c vp vg va vc vf _) hpX (fun g hg => .inl hg)
  generalize sB.join z = z at hS ⊢
  have hS : SH s0 (ckP c vp vg va vc vf (tellL x0 (stmtB x k i st ++ retT k y i st)) :: ptC (.ptr p6 0 0) [.int .i64 st.kind, .str st.name, vt, ve] :: R) z X := by rw [tellL_app, retT, if_pos h130]; exact hS
  refine aq0 ?_
  refine wc_early1 (k := 11) (cs := tz Tt 54) (fun p14 => [none, none, none, none, none, none, none, none, none, none, none, some (p14, tz Tt 54), none, none]) hS (by kernel_rfl) (fun _ => rfl) ?_
  clear hS
  rintro p14 z hS hcE hR
  have hS : SH _ (_ :: _ :: _ :: R) z _ := hS.perm (.cons _ (.cons _ (List.perm_append_singleton _ _)))
  refine we_val (fun _ => rfl) rfl rfl (op_pure rfl) ?_
  refine we_val (fun _ => rfl) rfl rfl (op_pure rfl) ?_
  refine we_val (fun _ => rfl) rfl rfl (op_fldP rfl rfl rfl rfl (by decide)) ?_
  refine we_load hR (v := .agg [vp, vg, va, vc, vf]) rfl rfl ((hS.pt 0 rfl).at (o := 0) (Nat.zero_le _)) rfl (hS.off (i := 0) (j := 2) (by decide) rfl rfl) rfl rfl ?_
  refine we_val (fun _ => rfl) rfl rfl (op_pure rfl) ?_
  refine we_val (fun _ => rfl) rfl rfl (op_fldP rfl rfl rfl rfl (by decide)) ?_
  refine we_load hR (v := .str st.name) rfl rfl ((hS.pt 1 rfl).at (nl rfl)) rfl (hS.off (i := 1) (j := 2) (by decide) rfl rfl) rfl rfl ?_
  refine we_call hR (ac1 hcE) rfl rfl (fun _ => rfl) (op_call rfl rfl rfl rfl) (find_ok hR.ok hx hv) (fun _ _ h => h.1) ?_
  rintro _ sQ ⟨-, rfl⟩ hR
  refine we_val (fun _ => rfl) rfl rfl (op_pure rfl) ?_
  refine we_val (fun _ => rfl) rfl rfl (op_pure rfl) ?_
  refine we_val (fun _ => rfl) rfl rfl (op_pure rfl) ?_
  refine we_alloc rfl (.head _) ?_
  refine we_store (old := tz Tt 54) (.head _) hR.ok (ah1 (by kernel_rfl)) rfl rfl rfl rfl rfl rfl (by rfl) ((hS.pt 2 rfl).keep0 hR) ?_
  rintro sE0 hpE0 hkE0
  refine we_val (fun _ => rfl) rfl rfl (op_pure rfl) ?_
  refine we_nil ?_
  have hS := hS.mov hR
  have hS := hS.upd 2 rfl hkE0 (fun g hg => hg) (ptC (.ptr p14 0 0) _) hpE0 (fun g hg => .inl hg)
  generalize sE0 = z at hS ⊢
  have hS : SH _ (_ :: _ :: _ :: R) z _ := hS
  refine aq1 ?_
  refine wvz (v := .int .i64 st.kind) (oL 1 hS) ?_
  refine aq2 ?_
  refine w_split (i := 163) rfl (fun h163 => ?_) (fun h163 => ?_)
  ·simp only [beq_iff_eq] at h163
   refine aq1 ?_
   refine wvz (v := .int .i64 (fN x k st.name).1) (oL 2 hS) ?_
   refine aq2 ?_
   refine wcb (fun h167 => ?_) (fun h167 => ?_)
   ·refine aq0 ?_
    obtain ⟨q, gx, hq, hgx⟩ := fN_fn h167
    have hql := (ges.1 hgx).1
    obtain ⟨cg, hcg⟩ : ∃ c, csf[q]? = some c := ⟨_, gee (by omega)⟩
    obtain ⟨gp, gr, gv, gb, rfl, hgp, hgr, hgv, hgb⟩ := hF q gx cg hgx hcg
    have hzg : ([.str gx.name, .int .u64 gx.level, gp, gr, gv, gb] : List AV).all AV.leaf = true := (hrf.cells _ (mog hcg)).2
    refine wc_early1 (k := 9) (cs := tz Tt 43) (fun p16 => [none, none, none, none, none, none, none, none, none, some (p16, tz Tt 43), none]) hS (by kernel_rfl) (fun _ => rfl) ?_
    clear hS
    rintro p16 z hS hcE hR
    have hS : SH _ (_ :: _ :: _ :: _ :: R) z _ := hS.perm (.cons _ (.cons _ (.cons _ (List.perm_append_singleton _ _))))
    refine we_val (fun _ => rfl) rfl rfl (op_pure rfl) ?_
    refine we_val (fun _ => rfl) rfl rfl (op_pure rfl) ?_
    refine we_val (fun _ => rfl) rfl rfl (op_fldP rfl rfl rfl rfl (by decide)) ?_
    refine we_val (fun _ => rfl) rfl rfl (op_fldP rfl rfl rfl rfl (by decide)) ?_
    refine we_load hR (v := vf) rfl rfl ((hS.pt 0 rfl).at (o := 4) (nl rfl)) rfl (hS.off (i := 0) (j := 3) (by decide) rfl rfl) rfl rfl ?_
    refine we_val (fun _ => rfl) rfl rfl (op_fldP rfl rfl rfl rfl (by decide)) ?_
    refine we_load hR (v := .int .i64 (q : Nat)) rfl rfl ((hS.pt 2 rfl).at (o := 1) (nl rfl)) (by rw [← hq]; rfl) (hS.off (i := 2) (j := 3) (by decide) rfl rfl) rfl rfl ?_
    refine we_val (fun _ => rfl) rfl rfl (oI (RowP.up hrf _)) ?_
    refine we_load hR rfl rfl (Row.pt (RowP.up hrf z.h) hcg) rfl (no_gs (RowP.egs hrf _)) rfl rfl ?_
    refine we_alloc rfl (.head _) ?_
    refine we_store (old := tz Tt 43) (.head _) hR.ok (ah1 (by kernel_rfl)) rfl rfl rfl rfl rfl rfl hzg ((hS.pt 3 rfl).keep0 hR) ?_
    rintro sE0 hpE0 hkE0
    refine we_nil ?_
    have hS := hS.mov hR
    have hS := hS.upd 3 rfl hkE0 (fun g hg => hg) (ptC (.ptr p16 0 0) _) hpE0 (fun g hg => .inl hg)
    generalize sE0 = z at hS ⊢
    have hS : SH _ (_ :: _ :: _ :: _ :: R) z _ := hS
    refine aq2 ?_
    refine wvz (oL 1 hS) ?_
    refine wvz (oN hse) ?_
    refine aq1 ?_
    refine wvz (oL 3 hS) ?_
    refine wvz (op_len rfl rfl rfl rfl rfl (RowP.slen hgp |>.trans (by rw [lmm]))) ?_
    refine aq2 ?_
    refine w_split (i := 185) rfl (fun h185 => ?_) (fun h185 => ?_)
    ·refine aq12 ?_
     refine aq4 ?_
     refine wkz (tell_sh hS) ?_
     rintro _ z ⟨hS, rfl⟩
     refine aq0 ?_
     refine ⟨_, rfl, ?_, rfl⟩
     rw [stmtT, tellL_app]
     first
     | (rw [show callT x k i st = [] from if_neg (fun h => h163 h.1)]; exact hS.sub (.cons_cons _ (.cons _ (.cons _ (.refl _)))))
     | (rw [show callT x k i st = [] from if_neg (fun h => h167 h.2)]; exact hS.sub (.cons_cons _ (.cons _ (.cons _ (.refl _)))))
     | (unfold callT
        rw [if_pos ⟨h163, h167⟩, hq, Int.toNat_natCast, hgx]
        simp only [tellL, fcc, List.foldl_nil, h185, h190, Bool.true_or, Bool.false_or, Bool.true_and, Bool.false_and] at hS ⊢
        exact hS.sub (.cons_cons _ (.cons _ (.cons _ (.cons _ (.refl _))))))
     | (unfold callT
        rw [if_pos ⟨h163, h167⟩, hq, Int.toNat_natCast, hgx]
        simp only [tellL, fcc, List.foldl_nil, h185, Bool.true_or] at hS ⊢
        exact hS.sub (.cons_cons _ (.cons _ (.cons _ (.cons _ (.refl _))))))
    refine aq1 ?_
    refine wvz (oL 1 hS) ?_
    refine wvz (oN hst1) ?_
    refine aq2 ?_
    refine w_split (i := 190) rfl (fun h190 => ?_) (fun h190 => ?_)
    ·refine aq1 ?_
     refine wvz (oL 1 hS) ?_
     refine wvz (oN hst1) ?_
     refine aq1 ?_
     refine wvz (oL 3 hS) ?_
     refine wvz (op_len rfl rfl rfl rfl rfl (RowP.slen hgr |>.trans (by rw [lmm]))) ?_
     refine aq5 ?_
     refine wkz (tell_sh hS) ?_
     rintro _ z ⟨hS, rfl⟩
     refine aq0 ?_
     refine ⟨_, rfl, ?_, rfl⟩
     rw [stmtT, tellL_app]
     first
     | (rw [show callT x k i st = [] from if_neg (fun h => h163 h.1)]; exact hS.sub (.cons_cons _ (.cons _ (.cons _ (.refl _)))))
     | (rw [show callT x k i st = [] from if_neg (fun h => h167 h.2)]; exact hS.sub (.cons_cons _ (.cons _ (.cons _ (.refl _)))))
     | (unfold callT
        rw [if_pos ⟨h163, h167⟩, hq, Int.toNat_natCast, hgx]
        simp only [tellL, fcc, List.foldl_nil, h185, h190, Bool.false_or, Bool.true_and] at hS ⊢
        exact hS.sub (.cons_cons _ (.cons _ (.cons _ (.cons _ (.refl _))))))
     | (unfold callT
        rw [if_pos ⟨h163, h167⟩, hq, Int.toNat_natCast, hgx]
        simp only [tellL, fcc, List.foldl_nil, h185, Bool.true_or, Bool.false_or, Bool.true_and, Bool.false_and] at hS ⊢
        exact hS.sub (.cons_cons _ (.cons _ (.cons _ (.cons _ (.refl _))))))
    refine aq11 ?_
    refine wkz (tell_sh hS) ?_
    rintro _ z ⟨hS, rfl⟩
    refine aq0 ?_
    refine ⟨_, rfl, ?_, rfl⟩
    rw [stmtT, tellL_app]
    first
    | (rw [show callT x k i st = [] from if_neg (fun h => h163 h.1)]; exact hS.sub (.cons_cons _ (.cons _ (.cons _ (.refl _)))))
    | (rw [show callT x k i st = [] from if_neg (fun h => h167 h.2)]; exact hS.sub (.cons_cons _ (.cons _ (.cons _ (.refl _)))))
    | (unfold callT
       rw [if_pos ⟨h163, h167⟩, hq, Int.toNat_natCast, hgx]
       simp only [tellL, fcc, List.foldl_nil, h185, h190, Bool.false_or, Bool.false_and] at hS ⊢
       exact hS.sub (.cons_cons _ (.cons _ (.cons _ (.cons _ (.refl _))))))
    | (unfold callT
       rw [if_pos ⟨h163, h167⟩, hq, Int.toNat_natCast, hgx]
       simp only [tellL, fcc, List.foldl_nil, h185, Bool.true_or, Bool.false_or, Bool.true_and, Bool.false_and] at hS ⊢
       exact hS.sub (.cons_cons _ (.cons _ (.cons _ (.cons _ (.refl _))))))
   refine aq0 ?_
   refine ⟨_, rfl, ?_, rfl⟩
   rw [stmtT, tellL_app]
   first
   | (rw [show callT x k i st = [] from if_neg (fun h => h163 h.1)]; exact hS.sub (.cons_cons _ (.cons _ (.cons _ (.refl _)))))
   | (rw [show callT x k i st = [] from if_neg (fun h => h167 h.2)]; exact hS.sub (.cons_cons _ (.cons _ (.cons _ (.refl _)))))
   | (unfold callT
      rw [if_pos ⟨h163, h167⟩, hq, Int.toNat_natCast, hgx]
      simp only [tellL, fcc, List.foldl_nil, h185, h190, Bool.true_or, Bool.false_or, Bool.true_and, Bool.false_and] at hS ⊢
      exact hS.sub (.cons_cons _ (.cons _ (.cons _ (.cons _ (.refl _))))))
   | (unfold callT
      rw [if_pos ⟨h163, h167⟩, hq, Int.toNat_natCast, hgx]
      simp only [tellL, fcc, List.foldl_nil, h185, Bool.true_or, Bool.false_or, Bool.true_and, Bool.false_and] at hS ⊢
      exact hS.sub (.cons_cons _ (.cons _ (.cons _ (.cons _ (.refl _))))))
  simp only [bff, ne_eq] at h163
  refine aq4 ?_
  refine wc_cond_f rfl ?_
  refine aq0 ?_
  refine ⟨_, rfl, ?_, rfl⟩
  rw [stmtT, tellL_app]
  first
  | (rw [show callT x k i st = [] from if_neg (fun h => h163 h.1)]; exact hS.sub (.cons_cons _ (.cons _ (.cons _ (.refl _)))))
  | (rw [show callT x k i st = [] from if_neg (fun h => h167 h.2)]; exact hS.sub (.cons_cons _ (.cons _ (.cons _ (.refl _)))))
  | (unfold callT
     rw [if_pos ⟨h163, h167⟩, hq, Int.toNat_natCast, hgx]
     simp only [tellL, fcc, List.foldl_nil, h185, h190, Bool.true_or, Bool.false_or, Bool.true_and, Bool.false_and] at hS ⊢
     exact hS.sub (.cons_cons _ (.cons _ (.cons _ (.cons _ (.refl _))))))
  | (unfold callT
     rw [if_pos ⟨h163, h167⟩, hq, Int.toNat_natCast, hgx]
     simp only [tellL, fcc, List.foldl_nil, h185, Bool.true_or, Bool.false_or, Bool.true_and, Bool.false_and] at hS ⊢
     exact hS.sub (.cons_cons _ (.cons _ (.cons _ (.cons _ (.refl _))))))
 have hS : SH s0 (ckP c vp vg va vc vf (tellL x0 (stmtB x k i st ++ retT k y i st)) :: ptC (.ptr p6 0 0) [.int .i64 st.kind, .str st.name, vt, ve] :: R) z X := by rw [retT, if_neg h130, List.append_nil]; exact hS
 refine aq0 ?_
 refine wc_early1 (k := 11) (cs := tz Tt 54) (fun p14 => [none, none, none, none, none, none, none, none, none, none, none, some (p14, tz Tt 54), none, none]) hS (by kernel_rfl) (fun _ => rfl) ?_
 clear hS
 rintro p14 z hS hcE hR
 have hS : SH _ (_ :: _ :: _ :: R) z _ := hS.perm (.cons _ (.cons _ (List.perm_append_singleton _ _)))
 refine we_val (fun _ => rfl) rfl rfl (op_pure rfl) ?_
 refine we_val (fun _ => rfl) rfl rfl (op_pure rfl) ?_
 refine we_val (fun _ => rfl) rfl rfl (op_fldP rfl rfl rfl rfl (by decide)) ?_
 refine we_load hR (v := .agg [vp, vg, va, vc, vf]) rfl rfl ((hS.pt 0 rfl).at (o := 0) (Nat.zero_le _)) rfl (hS.off (i := 0) (j := 2) (by decide) rfl rfl) rfl rfl ?_
 refine we_val (fun _ => rfl) rfl rfl (op_pure rfl) ?_
 refine we_val (fun _ => rfl) rfl rfl (op_fldP rfl rfl rfl rfl (by decide)) ?_
 refine we_load hR (v := .str st.name) rfl rfl ((hS.pt 1 rfl).at (nl rfl)) rfl (hS.off (i := 1) (j := 2) (by decide) rfl rfl) rfl rfl ?_
 refine we_call hR (ac1 hcE) rfl rfl (fun _ => rfl) (op_call rfl rfl rfl rfl) (find_ok hR.ok hx hv) (fun _ _ h => h.1) ?_
 rintro _ sQ ⟨-, rfl⟩ hR
 refine we_val (fun _ => rfl) rfl rfl (op_pure rfl) ?_
 refine we_val (fun _ => rfl) rfl rfl (op_pure rfl) ?_
 refine we_val (fun _ => rfl) rfl rfl (op_pure rfl) ?_
 refine we_alloc rfl (.head _) ?_
 refine we_store (old := tz Tt 54) (.head _) hR.ok (ah1 (by kernel_rfl)) rfl rfl rfl rfl rfl rfl (by rfl) ((hS.pt 2 rfl).keep0 hR) ?_
 rintro sE0 hpE0 hkE0
 refine we_val (fun _ => rfl) rfl rfl (op_pure rfl) ?_
 refine we_nil ?_
 have hS := hS.mov hR
 have hS := hS.upd 2 rfl hkE0 (fun g hg => hg) (ptC (.ptr p14 0 0) _) hpE0 (fun g hg => .inl hg)
 generalize sE0 = z at hS ⊢
 have hS : SH _ (_ :: _ :: _ :: R) z _ := hS
 refine aq1 ?_
 refine wvz (v := .int .i64 st.kind) (oL 1 hS) ?_
 refine aq2 ?_
 refine w_split (i := 163) rfl (fun h163 => ?_) (fun h163 => ?_)
 ·simp only [beq_iff_eq] at h163
  refine aq1 ?_
  refine wvz (v := .int .i64 (fN x k st.name).1) (oL 2 hS) ?_
  refine aq2 ?_
  refine wcb (fun h167 => ?_) (fun h167 => ?_)
  ·refine aq0 ?_
   obtain ⟨q, gx, hq, hgx⟩ := fN_fn h167
   have hql := (ges.1 hgx).1
   obtain ⟨cg, hcg⟩ : ∃ c, csf[q]? = some c := ⟨_, gee (by omega)⟩
   obtain ⟨gp, gr, gv, gb, rfl, hgp, hgr, hgv, hgb⟩ := hF q gx cg hgx hcg
   have hzg : ([.str gx.name, .int .u64 gx.level, gp, gr, gv, gb] : List AV).all AV.leaf = true := (hrf.cells _ (mog hcg)).2
   refine wc_early1 (k := 9) (cs := tz Tt 43) (fun p16 => [none, none, none, none, none, none, none, none, none, some (p16, tz Tt 43), none]) hS (by kernel_rfl) (fun _ => rfl) ?_
   clear hS
   rintro p16 z hS hcE hR
   have hS : SH _ (_ :: _ :: _ :: _ :: R) z _ := hS.perm (.cons _ (.cons _ (.cons _ (List.perm_append_singleton _ _))))
   refine we_val (fun _ => rfl) rfl rfl (op_pure rfl) ?_
   refine we_val (fun _ => rfl) rfl rfl (op_pure rfl) ?_
   refine we_val (fun _ => rfl) rfl rfl (op_fldP rfl rfl rfl rfl (by decide)) ?_
   refine we_val (fun _ => rfl) rfl rfl (op_fldP rfl rfl rfl rfl (by decide)) ?_
   refine we_load hR (v := vf) rfl rfl ((hS.pt 0 rfl).at (o := 4) (nl rfl)) rfl (hS.off (i := 0) (j := 3) (by decide) rfl rfl) rfl rfl ?_
   refine we_val (fun _ => rfl) rfl rfl (op_fldP rfl rfl rfl rfl (by decide)) ?_
   refine we_load hR (v := .int .i64 (q : Nat)) rfl rfl ((hS.pt 2 rfl).at (o := 1) (nl rfl)) (by rw [← hq]; rfl) (hS.off (i := 2) (j := 3) (by decide) rfl rfl) rfl rfl ?_
   refine we_val (fun _ => rfl) rfl rfl (oI (RowP.up hrf _)) ?_
   refine we_load hR rfl rfl (Row.pt (RowP.up hrf z.h) hcg) rfl (no_gs (RowP.egs hrf _)) rfl rfl ?_
   refine we_alloc rfl (.head _) ?_
   refine we_store (old := tz Tt 43) (.head _) hR.ok (ah1 (by kernel_rfl)) rfl rfl rfl rfl rfl rfl hzg ((hS.pt 3 rfl).keep0 hR) ?_
   rintro sE0 hpE0 hkE0
   refine we_nil ?_
   have hS := hS.mov hR
   have hS := hS.upd 3 rfl hkE0 (fun g hg => hg) (ptC (.ptr p16 0 0) _) hpE0 (fun g hg => .inl hg)
   generalize sE0 = z at hS ⊢
   have hS : SH _ (_ :: _ :: _ :: _ :: R) z _ := hS
   refine aq2 ?_
   refine wvz (oL 1 hS) ?_
   refine wvz (oN hse) ?_
   refine aq1 ?_
   refine wvz (oL 3 hS) ?_
   refine wvz (op_len rfl rfl rfl rfl rfl (RowP.slen hgp |>.trans (by rw [lmm]))) ?_
   refine aq2 ?_
   refine w_split (i := 185) rfl (fun h185 => ?_) (fun h185 => ?_)
   ·refine aq12 ?_
    refine aq4 ?_
    refine wkz (tell_sh hS) ?_
    rintro _ z ⟨hS, rfl⟩
    refine aq0 ?_
    refine ⟨_, rfl, ?_, rfl⟩
    rw [stmtT, tellL_app]
    first
    | (rw [show callT x k i st = [] from if_neg (fun h => h163 h.1)]; exact hS.sub (.cons_cons _ (.cons _ (.cons _ (.refl _)))))
    | (rw [show callT x k i st = [] from if_neg (fun h => h167 h.2)]; exact hS.sub (.cons_cons _ (.cons _ (.cons _ (.refl _)))))
    | (unfold callT
       rw [if_pos ⟨h163, h167⟩, hq, Int.toNat_natCast, hgx]
       simp only [tellL, fcc, List.foldl_nil, h185, h190, Bool.true_or, Bool.false_or, Bool.true_and, Bool.false_and] at hS ⊢
       exact hS.sub (.cons_cons _ (.cons _ (.cons _ (.cons _ (.refl _))))))
    | (unfold callT
       rw [if_pos ⟨h163, h167⟩, hq, Int.toNat_natCast, hgx]
       simp only [tellL, fcc, List.foldl_nil, h185, Bool.true_or] at hS ⊢
       exact hS.sub (.cons_cons _ (.cons _ (.cons _ (.cons _ (.refl _))))))
   refine aq1 ?_
   refine wvz (oL 1 hS) ?_
   refine wvz (oN hst1) ?_
   refine aq2 ?_
   refine w_split (i := 190) rfl (fun h190 => ?_) (fun h190 => ?_)
   ·refine aq1 ?_
    refine wvz (oL 1 hS) ?_
    refine wvz (oN hst1) ?_
    refine aq1 ?_
    refine wvz (oL 3 hS) ?_
    refine wvz (op_len rfl rfl rfl rfl rfl (RowP.slen hgr |>.trans (by rw [lmm]))) ?_
    refine aq5 ?_
    refine wkz (tell_sh hS) ?_
    rintro _ z ⟨hS, rfl⟩
    refine aq0 ?_
    refine ⟨_, rfl, ?_, rfl⟩
    rw [stmtT, tellL_app]
    first
    | (rw [show callT x k i st = [] from if_neg (fun h => h163 h.1)]; exact hS.sub (.cons_cons _ (.cons _ (.cons _ (.refl _)))))
    | (rw [show callT x k i st = [] from if_neg (fun h => h167 h.2)]; exact hS.sub (.cons_cons _ (.cons _ (.cons _ (.refl _)))))
    | (unfold callT
       rw [if_pos ⟨h163, h167⟩, hq, Int.toNat_natCast, hgx]
       simp only [tellL, fcc, List.foldl_nil, h185, h190, Bool.false_or, Bool.true_and] at hS ⊢
       exact hS.sub (.cons_cons _ (.cons _ (.cons _ (.cons _ (.refl _))))))
    | (unfold callT
       rw [if_pos ⟨h163, h167⟩, hq, Int.toNat_natCast, hgx]
       simp only [tellL, fcc, List.foldl_nil, h185, Bool.true_or, Bool.false_or, Bool.true_and, Bool.false_and] at hS ⊢
       exact hS.sub (.cons_cons _ (.cons _ (.cons _ (.cons _ (.refl _))))))
   refine aq11 ?_
   refine wkz (tell_sh hS) ?_
   rintro _ z ⟨hS, rfl⟩
   refine aq0 ?_
   refine ⟨_, rfl, ?_, rfl⟩
   rw [stmtT, tellL_app]
   first
   | (rw [show callT x k i st = [] from if_neg (fun h => h163 h.1)]; exact hS.sub (.cons_cons _ (.cons _ (.cons _ (.refl _)))))
   | (rw [show callT x k i st = [] from if_neg (fun h => h167 h.2)]; exact hS.sub (.cons_cons _ (.cons _ (.cons _ (.refl _)))))
   | (unfold callT
      rw [if_pos ⟨h163, h167⟩, hq, Int.toNat_natCast, hgx]
      simp only [tellL, fcc, List.foldl_nil, h185, h190, Bool.false_or, Bool.false_and] at hS ⊢
      exact hS.sub (.cons_cons _ (.cons _ (.cons _ (.cons _ (.refl _))))))
   | (unfold callT
      rw [if_pos ⟨h163, h167⟩, hq, Int.toNat_natCast, hgx]
      simp only [tellL, fcc, List.foldl_nil, h185, Bool.true_or, Bool.false_or, Bool.true_and, Bool.false_and] at hS ⊢
      exact hS.sub (.cons_cons _ (.cons _ (.cons _ (.cons _ (.refl _))))))
  refine aq0 ?_
  refine ⟨_, rfl, ?_, rfl⟩
  rw [stmtT, tellL_app]
  first
  | (rw [show callT x k i st = [] from if_neg (fun h => h163 h.1)]; exact hS.sub (.cons_cons _ (.cons _ (.cons _ (.refl _)))))
  | (rw [show callT x k i st = [] from if_neg (fun h => h167 h.2)]; exact hS.sub (.cons_cons _ (.cons _ (.cons _ (.refl _)))))
  | (unfold callT
     rw [if_pos ⟨h163, h167⟩, hq, Int.toNat_natCast, hgx]
     simp only [tellL, fcc, List.foldl_nil, h185, h190, Bool.true_or, Bool.false_or, Bool.true_and, Bool.false_and] at hS ⊢
     exact hS.sub (.cons_cons _ (.cons _ (.cons _ (.cons _ (.refl _))))))
  | (unfold callT
     rw [if_pos ⟨h163, h167⟩, hq, Int.toNat_natCast, hgx]
     simp only [tellL, fcc, List.foldl_nil, h185, Bool.true_or, Bool.false_or, Bool.true_and, Bool.false_and] at hS ⊢
     exact hS.sub (.cons_cons _ (.cons _ (.cons _ (.cons _ (.refl _))))))
 simp only [bff, ne_eq] at h163
 refine aq4 ?_
 refine wc_cond_f rfl ?_
 refine aq0 ?_
 refine ⟨_, rfl, ?_, rfl⟩
 rw [stmtT, tellL_app]
 first
 | (rw [show callT x k i st = [] from if_neg (fun h => h163 h.1)]; exact hS.sub (.cons_cons _ (.cons _ (.cons _ (.refl _)))))
 | (rw [show callT x k i st = [] from if_neg (fun h => h167 h.2)]; exact hS.sub (.cons_cons _ (.cons _ (.cons _ (.refl _)))))
 | (unfold callT
    rw [if_pos ⟨h163, h167⟩, hq, Int.toNat_natCast, hgx]
    simp only [tellL, fcc, List.foldl_nil, h185, h190, Bool.true_or, Bool.false_or, Bool.true_and, Bool.false_and] at hS ⊢
    exact hS.sub (.cons_cons _ (.cons _ (.cons _ (.cons _ (.refl _))))))
 | (unfold callT
    rw [if_pos ⟨h163, h167⟩, hq, Int.toNat_natCast, hgx]
    simp only [tellL, fcc, List.foldl_nil, h185, Bool.true_or, Bool.false_or, Bool.true_and, Bool.false_and] at hS ⊢
    exact hS.sub (.cons_cons _ (.cons _ (.cons _ (.cons _ (.refl _))))))
-- unused hook: lf0.12
-- unused hook: sett50
-- unused hook: sett64
-- unused hook: knt72
-- unused hook: sett93
-- unused hook: sett128
end Go.Ab
namespace Go.Ab
open Go.Proofs
theorem tellL_more {x : Flt} {l : List (Bool × Flt)} (h : x.err ≠ 0) : tellL x l = x := by
 induction l with
 | nil => rfl
 | cons p l ih => rw [tellL, fcc, show tellF x p.1 p.2 = x from if_neg (fun k => h k.2)]; exact ih
theorem tellL_first {l r : List (Bool × Flt)} (hl : GoodF l) (hr : GoodF r) : tellL (firstF l) r = firstF (l ++ r) := firstF_tells hl hr
theorem range_split {β : Type} (g : Nat → List β) {i : Nat} : ∀ {n : Nat}, i ≤ n → ∃ r, (List.range n).flatMap g = (List.range i).flatMap g ++ r
 | 0, h => ⟨[], by rw [show i = 0 by omega]; simp⟩
 | n + 1, h => by
  rcases Nat.lt_or_ge n i with k | k
  ·rw [show i = n + 1 by omega]; exact ⟨[], by simp⟩
  ·obtain ⟨r, hr⟩ := range_split g k
   exact ⟨r ++ g n, by rw [range_flat, hr, aas]⟩
noncomputable def stmtI (s : SrcL) (k : Nat) (y : FunL) (i : Nat) : List (Bool × Flt) := match y.body[i]? with
 | none => []
 | some st => stmtT s k y i st
noncomputable def funT (s : SrcL) (k : Nat) : List (Bool × Flt) := match s.funcs[k]? with
 | none => []
 | some y => headT s k y ++ (List.range y.body.length).flatMap (stmtI s k y)
noncomputable def stepT (s : SrcL) : Nat → List (Bool × Flt)
 | 0 => declL s
 | k + 1 => funT s k
noncomputable def checkL (s : SrcL) : List (Bool × Flt) := (List.range (s.funcs.length + 1)).flatMap (stepT s)
theorem good_use (s : SrcL) (f a : Int) (nm : ByteArray) (ks : List Int) : GoodF (useT s f a nm ks) := by
 intro p hp
 unfold useT at hp
 simp only [List.mem_cons, nmn, or_false] at hp
 rcases hp with rfl | rfl <;> simp
theorem good_head (s : SrcL) (k : Nat) (y : FunL) : GoodF (headT s k y) := by
 unfold headT
 refine GoodF.app (GoodF.app (GoodF.app ?_ (GoodF.flat fun i _ => ?_)) (GoodF.flat fun i _ => ?_)) ?_
 ·intro p hp; unfold headA at hp; simp only [List.mem_cons, nmn, or_false] at hp; rcases hp with rfl | rfl <;> simp
 ·intro p hp
  unfold locT at hp
  split at hp
  ·cases hp
  ·simp only [List.mem_cons, nmn, or_false] at hp; rcases hp with rfl | rfl | rfl <;> simp
 ·intro p hp
  unfold resT at hp
  split at hp
  ·cases hp
  ·simp only [List.mem_cons, nmn, or_false] at hp; subst hp; simp
 ·intro p hp; unfold headZ at hp; simp only [List.mem_cons, nmn, or_false] at hp; rcases hp with rfl | rfl <;> simp
theorem good_stmt' (s : SrcL) (k : Nat) (y : FunL) (i : Nat) (x : StmtL) : GoodF (stmtT s k y i x) := by
 unfold stmtT stmtB
 refine GoodF.app (GoodF.app (GoodF.app (GoodF.app (GoodF.app ?_ (GoodF.flat fun j _ => ?_)) ?_) (GoodF.flat fun j _ => ?_)) ?_) ?_
 ·intro p hp; unfold stmtA at hp; simp only [List.mem_cons, nmn, or_false] at hp; rcases hp with rfl | rfl <;> simp
 ·unfold tgtT
  split
  ·exact GoodF.nil
  ·exact good_use _ _ _ _ _
 ·unfold nameT
  split
  ·exact good_use _ _ _ _ _
  ·split
   ·exact good_use _ _ _ _ _
   ·split
    ·exact good_use _ _ _ _ _
    ·exact GoodF.nil
 ·unfold exprT
  split
  ·exact GoodF.nil
  ·refine GoodF.flat fun n _ => ?_
   unfold termT
   split
   ·exact GoodF.nil
   ·split
    ·exact good_use _ _ _ _ _
    ·split
     ·exact good_use _ _ _ _ _
     ·exact GoodF.nil
 ·unfold retT
  split
  ·intro p hp; simp only [List.mem_cons, nmn, or_false] at hp; subst hp; simp
  ·exact GoodF.nil
 ·unfold callT
  split
  ·split
   ·exact GoodF.nil
   ·intro p hp; simp only [List.mem_cons, nmn, or_false] at hp; subst hp; simp
  ·exact GoodF.nil
theorem good_fun' (s : SrcL) (k : Nat) : GoodF (funT s k) := by
 unfold funT
 split
 ·exact GoodF.nil
 ·refine (good_head _ _ _).app (GoodF.flat fun i _ => ?_)
  unfold stmtI
  split
  ·exact GoodF.nil
  ·exact good_stmt' _ _ _ _ _
theorem good_step (s : SrcL) : ∀ k, GoodF (stepT s k)
 | 0 => good_declL s
 | k + 1 => good_fun' s k
theorem good_check (s : SrcL) (n : Nat) : GoodF ((List.range n).flatMap (stepT s)) := GoodF.flat fun k _ => good_step s k
def stepF : Nat → FuncId
 | 0 => 28
 | _ + 1 => 30
def stepC (p3 p1 : Nat) : Nat → List AV
 | 0 => [.ptr p3 0 0]
 | _ + 1 => [.ptr p3 0 0, .ptr p1 0 0]
def stepR (p3 p1 i : Nat) : List AV := [.fn (stepF i) (stepC p3 p1 i)]
set_option maxRecDepth 10000 in
set_option maxHeartbeats 8000000 in
theorem step54_ok {s0 z : St} {X : List Nat} {R : List Chunk} {c p3 p1 : Nat} {vp vg va vc vf : AV} {x : SrcL} (hS : SH s0 (ckP c vp vg va vc vf (⟨0, 0, 0⟩) :: ptC (.ptr p3 0 0) [.ptr c 0 0] :: ptC (.ptr p1 0 0) [vp, vg, va, vc, vf] :: R) z X) (hx : x.small) (hfi : x.fine) (hv : SrcP x [vp, vg, va, vc, vf]) {a : Int} :
  CallS Tryz.prog Tt Kt 28 [.int .i64 a, .ptr p3 0 0] z fun r z' => SH s0 (ckP c vp vg va vc vf (firstF (declL x)) :: ptC (.ptr p3 0 0) [.ptr c 0 0] :: ptC (.ptr p1 0 0) [vp, vg, va, vc, vf] :: R) z' X ∧ r = .tup [] := by
 refine call_of (fn := Tryz.f28) (nt := 5) Tryz.func28 rfl rfl rfl ?_
 refine aq0 ?_
 refine wvz (oL 1 hS) ?_
 refine wkz (declarations_ok hS.ok hx hfi hv (hS.pt 0 rfl)) ?_
 rintro _ z ⟨hk, hp, rfl⟩
 have hS := hS.upd 0 rfl hk (fun g hg => hg) (ckP c vp vg va vc vf _) hp (fun g hg => .inl hg)
 refine aq0 ?_
 exact ⟨_, rfl, hS, rfl⟩
set_option maxRecDepth 10000 in
set_option maxHeartbeats 8000000 in
theorem step56_ok {s0 z : St} {X : List Nat} {R : List Chunk} {c p3 p1 k : Nat} {vp vg va vc vf : AV} {x : SrcL} {x0 : Flt} (hS : SH s0 (ckP c vp vg va vc vf (x0) :: ptC (.ptr p3 0 0) [.ptr c 0 0] :: ptC (.ptr p1 0 0) [vp, vg, va, vc, vf] :: R) z X) (hx : x.small) (hfi : x.fine) (hv : SrcP x [vp, vg, va, vc, vf]) (hkl : k < x.funcs.length) :
  CallS Tryz.prog Tt Kt 30 [.int .i64 (k : Nat), .ptr p3 0 0, .ptr p1 0 0] z fun r z' => SH s0 (ckP c vp vg va vc vf (tellL x0 (funT x k)) :: ptC (.ptr p3 0 0) [.ptr c 0 0] :: ptC (.ptr p1 0 0) [vp, vg, va, vc, vf] :: R) z' X ∧ r = .tup [] := by
 obtain ⟨_, _, _, _, _, e0, hvp, hvg, hva, hvc, csf, hrf, hlf, hF⟩ := id hv
 cases e0
 obtain ⟨hl1, hl2, hl3, hl4, hl5, hsm⟩ := id hx
 obtain ⟨y, hy⟩ : ∃ y, x.funcs[k]? = some y := ⟨_, gee hkl⟩
 obtain ⟨cy, hcy⟩ : ∃ c, csf[k]? = some c := ⟨_, gee (by omega)⟩
 obtain ⟨yp, yr, yv, yb, rfl, hyp, hyr, hyv, hyb⟩ := hF k y cy hy hcy
 obtain ⟨hy1, hy2, hy3, hy4, hy5⟩ := id (hsm y (mog hy))
 obtain ⟨csb, hbr, hbl, hbE⟩ := id hyb
 have hfu : funT x k = headT x k y ++ (List.range y.body.length).flatMap (stmtI x k y) := by unfold funT; rw [hy]
 refine call_of (fn := Tryz.f30) (nt := 29) Tryz.func30 rfl rfl rfl ?_
 refine aq0 ?_
 refine wvz (oL 1 hS) ?_
 refine aq1 ?_
 refine wkz (head_ok hS hx hfi hv hy) ?_
 clear hS
 rintro _ z ⟨hS, rfl⟩
 have hK := hS.K
 refine aq1 ?_
 refine wvz (v := vf) (oL 2 hS) ?_
 refine aq1 ?_
 refine wvz (oI (RowP.up hrf _)) ?_
 refine wvz (oF (Row.pt (RowP.up hrf z.h) hcy)) ?_
 refine wvz (v := yb) (oM (Pt.fld (Row.pt (RowP.up hrf z.h) hcy) _ (nl rfl))) ?_
 refine wvz (op_len rfl rfl rfl rfl rfl (by rw [hbr.slen, hbl])) ?_
 refine aq1 ?_
 refine wc_loop_at (fun jj m z => ∃ i : Nat, jj = y.body.length - i ∧ i ≤ y.body.length ∧ m = [(0, .int .i64 (k : Nat)), (1, .ptr p3 0 0), (2, .ptr p1 0 0), (14, .int .i64 (y.body.length : Nat)), (15, .int .i64 (i : Nat))] ∧ SH s0 (ckP c vp vg va vc vf (tellL x0 (headT x k y ++ (List.range i).flatMap (stmtI x k y))) :: ptC (.ptr p3 0 0) [.ptr c 0 0] :: ptC (.ptr p1 0 0) [vp, vg, va, vc, vf] :: R) z X) y.body.length
  [(0, .int .i64 (k : Nat)), (1, .ptr p3 0 0), (2, .ptr p1 0 0), (14, .int .i64 (y.body.length : Nat)), (15, .int .i64 ((0 : Nat) : Int))] (scn rfl (scn rfl (scn rfl (scn rfl (scn rfl (Sub.nil _)))))) ⟨0, by simp, by simp, rfl, by simpa using hS⟩ ?_
 clear hS hK
 rintro jj m z ⟨i, rfl, hi, rfl, hS⟩
 refine aq1 ?_
 refine wcd (fun h16 => ?_) (fun h16 => ?_)
 ·refine aq0 ?_
  obtain ⟨st, hst⟩ : ∃ st, y.body[i]? = some st := ⟨_, gee (by omega)⟩
  have hsi : stmtI x k y i = stmtT x k y i st := by unfold stmtI; rw [hst]
  refine aq2 ?_
  refine wvz (oL 1 hS) ?_
  refine aq3 ?_
  refine wvz (oL 0 hS) ?_
  refine aq1 ?_
  refine wc_condT rfl (fun h23 => ?_) (fun h23 => ?_)
  ·simp only [ne_eq, bne_iff_ne] at h23
   refine aq0 ?_
   refine ⟨_, rfl, ?_, rfl⟩
   obtain ⟨r, hr⟩ := range_split (stmtI x k y) hi
   rw [hfu, hr, ← aas, tellL_app, tellL_more h23]
   exact hS
  simp only [bne_eq_false_iff_eq] at h23
  refine aq0 ?_
  refine wvz (oL 1 hS) ?_
  refine aq2 ?_
  refine wkz (stmt_ok hS hx hv hy hst) ?_
  clear hS
  rintro _ z ⟨hS, rfl⟩
  refine aq0 ?_
  refine wad ?_
  refine aq1 ?_
  have hS : SH s0 (ckP c vp vg va vc vf (tellL x0 (headT x k y ++ (List.range (i + 1)).flatMap (stmtI x k y))) :: ptC (.ptr p3 0 0) [.ptr c 0 0] :: ptC (.ptr p1 0 0) [vp, vg, va, vc, vf] :: R) z X := by
   rw [range_flat, hsi, ← aas, tellL_app]
   exact hS
  exact rn ⟨i + 1, rfl, by omega, rfl, hS⟩
 obtain rfl : i = y.body.length := by omega
 refine aq0 ?_
 exact ⟨_, rfl, by rw [hfu]; exact hS, rfl⟩
theorem step_ok {s0 z : St} {X : List Nat} {R : List Chunk} {c p3 p1 i : Nat} {vp vg va vc vf : AV} {x : SrcL} (hS : SH s0 (ckP c vp vg va vc vf (firstF ((List.range i).flatMap (stepT x))) :: ptC (.ptr p3 0 0) [.ptr c 0 0] :: ptC (.ptr p1 0 0) [vp, vg, va, vc, vf] :: R) z X) (hx : x.small) (hfi : x.fine) (hv : SrcP x [vp, vg, va, vc, vf]) (hi : i < x.funcs.length + 1) :
  CallS Tryz.prog Tt Kt (stepF i) (.int .i64 ((i : Nat) - 1 : Int) :: stepC p3 p1 i) z fun r z' => SH s0 (ckP c vp vg va vc vf (firstF ((List.range (i + 1)).flatMap (stepT x))) :: ptC (.ptr p3 0 0) [.ptr c 0 0] :: ptC (.ptr p1 0 0) [vp, vg, va, vc, vf] :: R) z' X ∧ r = .tup [] := by
 rw [range_flat, ← tellL_first (good_check x i) (good_step x i)]
 cases i with
 | zero =>
  have h1 : tellL (firstF ((List.range 0).flatMap (stepT x))) (stepT x 0) = firstF (declL x) := tellL_first GoodF.nil (good_step x 0)
  rw [h1]
  exact step54_ok hS hx hfi hv
 | succ k =>
  rw [show ((k + 1 : Nat) - 1 : Int) = (k : Nat) by omega]
  exact step56_ok hS hx hfi hv (by omega)
set_option maxRecDepth 10000 in
set_option maxHeartbeats 8000000 in
theorem check_ok {s : St} {c : List AV} {x : SrcL} (hok : s.Ok) (hx : x.small) (hfi : x.fine) (hv : SrcP x c) :
  CallS Tryz.prog Tt Kt 10 [.agg c] s fun r s' => Keep [] s s' ∧ r = .agg (fltC (firstF (checkL x))) := by
 obtain ⟨vp, vg, va, vc, vf, rfl, hvp, hvg, hva, hvc, csf, hrf, hlf, hF⟩ := id hv
 obtain ⟨hl1, hl2, hl3, hl4, hl5, hsm⟩ := id hx
 have hsf : vf.slen = some x.funcs.length := by rw [hrf.slen, hlf]
 have hzc : (AV.agg (ckC vp vg va vc vf ⟨0, 0, 0⟩)).cells.all AV.leaf = true := by
  have := hv.leaf
  simp only [List.all_cons, List.all_nil, Bool.and_true, Bool.and_eq_true] at this
  obtain ⟨h1, h2, h3, h4, h5⟩ := this
  show (ckC vp vg va vc vf ⟨0, 0, 0⟩).all AV.leaf = true
  simp only [ckC, List.all_cons, List.all_nil, h1, h2, h3, h4, h5]; rfl
 refine call_of (fn := Tryz.f10) (nt := 44) Tryz.func10 rfl rfl rfl ?_
 refine aq0 ?_
 have hS := SH.start hok
 refine aq0 ?_
 refine ws_box hS rfl rfl rfl hv.leaf ?_
 rintro p0 z hS hk
 have hS : SH _ [_] z _ := hS
 refine ws_alloc hS rfl rfl rfl rfl ?_
 rintro pr z hS hk
 have hS : SH _ [_, _] z _ := hS
 refine aq0 ?_
 refine wvz (v := .agg [vp, vg, va, vc, vf]) (oL 0 hS) ?_
 refine wvz (v := .agg (ckC vp vg va vc vf ⟨0, 0, 0⟩)) (op_pure rfl) ?_
 refine ws_box hS rfl rfl rfl hzc ?_
 rintro p2 z hS hk
 have hS : SH _ [_, _, _] z _ := hS
 refine ws_alloc hS rfl rfl rfl rfl ?_
 rintro p3 z hS hk
 have hS : SH _ [_, _, _, _] z _ := hS
 refine ws_storeL 3 hS rfl rfl rfl rfl rfl rfl (by rfl) (nl rfl) ?_
 rintro z hS
 have hS : SH _ [_, _, _, _] z _ := hS
 refine aq1 ?_
 refine w_lit (c := [.fn 28 [.ptr p3 0 0]]) [[.fn 28 [.ptr p3 0 0]]] rfl rfl rfl rfl rfl rfl rfl (by decide) (by decide) rfl rfl rfl (by intro c hc; rw [msi.1 hc]; exact ⟨rfl, rfl⟩) rfl hS.ok ?_
 rintro v z hlv hk hc hlg
 have hS := hS.add hk (rowC v 1 [[.fn 28 [.ptr p3 0 0]]]) ⟨hlv, fun h => by rw [hlg] at h; cases h⟩ (row_newb hk hlv hlg hc)
 have hS : SH s [ptC (.ptr p0 0 0) [vp, vg, va, vc, vf], ptC (.ptr pr 0 0) [.int .i64 0, .int .i64 0, .int .i64 0], ckP p2 vp vg va vc vf ⟨0, 0, 0⟩, ptC (.ptr p3 0 0) [.ptr p2 0 0], rowC v 1 ((List.range (0 + 1)).map (stepR p3 p0))] z _ := hS
 have hK := hS.K
 refine aq2 ?_
 refine wvz (v := vf) (oL 0 hS) ?_
 refine wvz (oN hsf) ?_
 refine aq1 ?_
 refine wc_loop_at (fun jj m z => ∃ (i : Nat) (v : AV), jj = x.funcs.length - i ∧ i ≤ x.funcs.length ∧ m = [(1, .ptr p0 0 0), (2, .ptr pr 0 0), (3, .ptr p3 0 0), (4, v), (14, .int .i64 (x.funcs.length : Nat)), (15, .int .i64 (i : Nat))] ∧ SH s [ptC (.ptr p0 0 0) [vp, vg, va, vc, vf], ptC (.ptr pr 0 0) [.int .i64 0, .int .i64 0, .int .i64 0], ckP p2 vp vg va vc vf ⟨0, 0, 0⟩, ptC (.ptr p3 0 0) [.ptr p2 0 0], rowC v 1 ((List.range (i + 1)).map (stepR p3 p0))] z) x.funcs.length
  [(1, .ptr p0 0 0), (2, .ptr pr 0 0), (3, .ptr p3 0 0), (4, v), (14, .int .i64 (x.funcs.length : Nat)), (15, .int .i64 ((0 : Nat) : Int))] (scn rfl (scn rfl (scn rfl (scn rfl (scn rfl (scn rfl (Sub.nil _))))))) ⟨0, v, by simp, by simp, rfl, hS⟩ ?_
 clear hS hK hlv
 rintro jj m z ⟨i, v, rfl, hi, rfl, hS⟩
 have hK := hS.K
 refine aq1 ?_
 refine wcd (fun h16 => ?_) (fun h16 => ?_)
 ·refine aq2 ?_
  refine ws_lit1 hS rfl rfl rfl rfl rfl rfl rfl rfl (by decide) (by decide) rfl (by rfl) rfl ?_
  rintro lt19 z hS hk hlt19
  refine ws_append 4 hS rfl rfl rfl rfl rfl rfl rfl rfl rfl rfl rfl (by decide) (hlt19) (by (simp [maxBytes]; omega)) (by (simp [maxBytes]; omega)) ?_
  rintro at20 z hS
  have hS : SH _ [_, _, _, _, _] z _ := hS
  refine aq1 ?_
  refine wad ?_
  refine aq1 ?_
  have hS : SH s [ptC (.ptr p0 0 0) [vp, vg, va, vc, vf], ptC (.ptr pr 0 0) [.int .i64 0, .int .i64 0, .int .i64 0], ckP p2 vp vg va vc vf ⟨0, 0, 0⟩, ptC (.ptr p3 0 0) [.ptr p2 0 0], rowC at20 1 ((List.range (i + 1 + 1)).map (stepR p3 p0))] z := by
   have e : (List.range (i + 1 + 1)).map (stepR p3 p0) = (List.range (i + 1)).map (stepR p3 p0) ++ [[.fn 30 [.ptr p3 0 0, .ptr p0 0 0]]] := by rw [List.range_succ, List.map_append]; rfl
   rw [e]
   exact hS
  exact rn ⟨i + 1, at20, rfl, by omega, rfl, hS⟩
 obtain rfl : i = x.funcs.length := by omega
 refine aq1 ?_
 refine wvz (v := .int .i64 ((x.funcs.length + 1 : Nat) : Int)) (op_len rfl rfl rfl rfl rfl ((hS.row 4 rfl).slen.trans (by simp))) ?_
 refine wvz (op_pure rfl) ?_
 refine w_nil ?_
 refine then_n ?_
 repeat refine wc_seq ?_
 refine wc_cut (fun m z => Sub [(2, .ptr pr 0 0), (3, .ptr p3 0 0)] m ∧ SH s [ckP p2 vp vg va vc vf (firstF (checkL x)), ptC (.ptr p3 0 0) [.ptr p2 0 0], ptC (.ptr p0 0 0) [vp, vg, va, vc, vf], ptC (.ptr pr 0 0) [.int .i64 0, .int .i64 0, .int .i64 0], rowC v 1 ((List.range (x.funcs.length + 1)).map (stepR p3 p0))] z) ?_ ?_
 ·refine aq0 ?_
  have hS : SH s [ckP p2 vp vg va vc vf (firstF ((List.range 0).flatMap (stepT x))), ptC (.ptr p3 0 0) [.ptr p2 0 0], ptC (.ptr p0 0 0) [vp, vg, va, vc, vf], ptC (.ptr pr 0 0) [.int .i64 0, .int .i64 0, .int .i64 0], rowC v 1 ((List.range (x.funcs.length + 1)).map (stepR p3 p0))] z := hS.sel [2, 3, 0, 1, 4] rfl (by decide)
  refine wc_loop_at (fun jj m z => ∃ i : Nat, jj = x.funcs.length + 1 - i ∧ i ≤ x.funcs.length + 1 ∧ m = [(2, .ptr pr 0 0), (3, .ptr p3 0 0), (22, v), (23, .int .i64 ((x.funcs.length + 1 : Nat) : Int)), (24, .int .i64 (i : Nat))] ∧ SH s [ckP p2 vp vg va vc vf (firstF ((List.range i).flatMap (stepT x))), ptC (.ptr p3 0 0) [.ptr p2 0 0], ptC (.ptr p0 0 0) [vp, vg, va, vc, vf], ptC (.ptr pr 0 0) [.int .i64 0, .int .i64 0, .int .i64 0], rowC v 1 ((List.range (x.funcs.length + 1)).map (stepR p3 p0))] z) (x.funcs.length + 1)
   [(2, .ptr pr 0 0), (3, .ptr p3 0 0), (22, v), (23, .int .i64 ((x.funcs.length + 1 : Nat) : Int)), (24, .int .i64 ((0 : Nat) : Int))] (scn rfl (scn rfl (scn rfl (scn rfl (scn rfl (Sub.nil _)))))) ⟨0, by simp, by simp, rfl, hS⟩ ?_
  clear hS hK
  rintro jj m z ⟨i, rfl, hi, rfl, hS⟩
  have hK := hS.K
  refine aq1 ?_
  refine wcd (fun h25 => ?_) (fun h25 => ?_)
  ·refine aq0 ?_
   have hri : (List.range (x.funcs.length + 1))[i]? = some i := by rw [List.getElem?_range (by omega)]
   refine aq1 ?_
   refine wvz (op_idxF rfl rfl (natA_cast _ _) rfl rfl rfl rfl (hS.row 4 rfl) (by (simp; omega))) ?_
   refine wvz (v := .fn (stepF i) (stepC p3 p0 i)) (oM (Row.mk_pt (hS.row 4 rfl) hri)) ?_
   refine aq2 ?_
   refine wvz (oL 1 hS) ?_
   refine aq3 ?_
   refine wvz (oL 0 hS) ?_
   refine aq1 ?_
   refine wc_condT rfl (fun h34 => ?_) (fun h34 => ?_)
   ·simp only [ne_eq, bne_iff_ne] at h34
    refine aq0 ?_
    refine cut_n ?_
    refine ⟨(scn rfl (scn rfl (Sub.nil _))), ?_⟩
    have e : firstF (checkL x) = firstF ((List.range i).flatMap (stepT x)) := by
     obtain ⟨r, hr⟩ := range_split (stepT x) hi
     rw [checkL, hr, firstF_more (good_check x i) h34]
    rw [e]
    exact hS
   simp only [bne_eq_false_iff_eq] at h34
   refine aq2 ?_
   refine wvz (op_sub rfl rfl (by unfold In64; omega)) ?_
   refine w_call rfl rfl (op_call rfl rfl rfl rfl) (step_ok hS hx hfi hv (by omega)) ?_
   clear hS hK
   rintro _ z ⟨hS, rfl⟩
   refine aq0 ?_
   refine wad ?_
   refine aq1 ?_
   exact rn ⟨i + 1, rfl, by omega, rfl, hS⟩
  obtain rfl : i = x.funcs.length + 1 := by omega
  refine aq0 ?_
  refine cut_n ?_
  exact ⟨(scn rfl (scn rfl (Sub.nil _))), hS⟩
 clear hS hK
 rintro m z ⟨hm, hS⟩
 refine wc_sub hm ?_
 refine aq0 ?_
 refine wvz (v := .ptr p2 0 0) (oL 1 hS) ?_
 refine aq2 ?_
 refine wvz (v := .agg (fltC (firstF (checkL x)))) (oL 0 hS) ?_
 refine ws_store 3 hS rfl rfl rfl rfl rfl rfl rfl (nl rfl) ?_
 rintro z hS
 have hS : SH s [ckP p2 vp vg va vc vf (firstF (checkL x)), ptC (.ptr p3 0 0) [.ptr p2 0 0], ptC (.ptr p0 0 0) [vp, vg, va, vc, vf], ptC (.ptr pr 0 0) (fltC (firstF (checkL x))), rowC v 1 ((List.range (x.funcs.length + 1)).map (stepR p3 p0))] z := hS
 have hK := hS.K
 refine aq0 ?_
 exact ⟨_, res_cell rfl rfl (hS.pt 3 rfl) rfl, hK, rfl⟩
-- unused hook: knt11
end Go.Ab
namespace Go.Ab
open Go.Proofs
theorem wrapNat {n : Nat} (h : n < 2 ^ 64) : IntKind.u64.wrap (n : Int) = n := wrapU64 (by omega) (by omega)
section
variable {s : SrcL} {f a b : Int} {nm : ByteArray}
end
end Go.Ab
namespace Go.Ab
open Go.Proofs
abbrev Off (l : List (Bool × Flt)) : Prop := ∀ p ∈ l, p.1 = false
theorem Off.app {l r : List (Bool × Flt)} (h : Off l) (k : Off r) : Off (l ++ r) := fun p hp => (List.mem_append.1 hp).elim (h p) (k p)
theorem Off.nil : Off [] := fun _ h => by cases h
theorem Off.cons {b : Bool} {f : Flt} {l : List (Bool × Flt)} (h : b = false) (k : Off l) : Off ((b, f) :: l) := fun p hp => (List.mem_cons.1 hp).elim (fun e => by rw [e]; exact h) (k p)
theorem flat_off {g : Nat → List (Bool × Flt)} {i : Nat} (h1 : Off ((List.range i).flatMap g)) (h2 : Off (g i)) : Off ((List.range (i + 1)).flatMap g) := by
 rw [range_flat]; exact h1.app h2
section
variable {s : SrcL} {i : Nat} {p : ByteArray} {e : DE}
end
end Go.Ab
namespace Go.Ab
open Go.Proofs
section
variable {s : SrcL} {k i : Nat} {y : FunL} {d : DeclL} {A B : List (Bool × Flt)} {b : Bool} {f : Flt}
end
end Go.Ab
namespace Go.Ab
open Go.Proofs
def usesT (s : SrcL) (k i : Nat) (x : StmtL) : List (Bool × Flt) := (List.range x.targets.length).flatMap (tgtT s k i x) ++ nameT s k i x ++ (List.range x.exprs.length).flatMap (exprT s k i x)
theorem stmtT_eq (s : SrcL) (k : Nat) (y : FunL) (i : Nat) (x : StmtL) : stmtT s k y i x = stmtA k i x ++ (usesT s k i x ++ (retT k y i x ++ callT s k i x)) := by
 unfold stmtT stmtB usesT
 simp only [aas]
section
variable {s : SrcL} {k i : Nat} {y : FunL} {x : StmtL} {A B : List (Bool × Flt)} {b : Bool} {f : Flt} {us : List Int}
theorem call_kind (h1 : Off (usesT s k i x)) (hk : x.kind = 4) : (fN s k x.name).1 = 5 := by
 have h2 : Off (useT s k i x.name [5]) := fun p hp => h1 p (by
   unfold usesT
   refine List.mem_append_left _ (List.mem_append_right _ ?_)
   rw [nameT, if_neg (by omega), if_neg (by omega), if_pos hk]; exact hp)
 have := h2 _ (List.mem_cons_of_mem _ (mcs ..))
 simp only [Bool.not_eq_false'] at this
 have := inZ_iff.1 this
 simpa using this
end
section
variable {s : SrcL} {k i : Nat} {y : FunL} {x : StmtL} {b : Bool}
end
end Go.Ab
namespace Go.Ab
open Go.Proofs
theorem checkL_eq (s : SrcL) : ∀ n, (List.range (n + 1)).flatMap (stepT s) = declL s ++ (List.range n).flatMap (funT s)
 | 0 => by simp [stepT]
 | n + 1 => by rw [range_flat, checkL_eq s n, range_flat, aas]; rfl
end Go.Ab
namespace Go.Ab
open Go.Proofs
def orI (a b : Int) : Int := IntKind.u64.wrap ((BitVec.ofInt 64 a ||| BitVec.ofInt 64 b).toNat : Int)
def joinL (ls : List Int) : Int := ls.foldl orI 0
def wI (a b : Int) : Bool := IntKind.u64.wrap ((BitVec.ofInt 64 a &&& ~~~ BitVec.ofInt 64 b).toNat : Int) == 0
set_option maxRecDepth 10000 in
set_option maxHeartbeats 8000000 in
theorem join_ok {s : St} {v : AV} {ls : List Int} (hok : s.Ok) (hl : ls.length ≤ 2097152) (hv : RowP 1 v (ls.map lC)) :
  CallS Tryz.prog Tt Kt 39 [v] s fun r s' => Keep [] s s' ∧ r = .int .u64 (joinL ls) := by
 refine call_of (fn := Tryz.f39) (nt := 16) Tryz.func39 rfl rfl rfl ?_
 refine aq0 ?_
 have hK := Keep.refl hok
 refine aq2 ?_
 refine wvz (op_len rfl rfl rfl rfl rfl (RowP.slen hv |>.trans (by rw [lmm]))) ?_
 refine aq1 ?_
 refine wc_loop_at (fun jj m z => ∃ i : Nat, jj = ls.length - i ∧ i ≤ ls.length ∧ m = [(2, .int .u64 (joinL (ls.take i))), (5, v), (6, .int .i64 (ls.length : Nat)), (7, .int .i64 (i : Nat))] ∧ Keep [] s z) ls.length
  [(2, .int .u64 (joinL (ls.take 0))), (5, v), (6, .int .i64 (ls.length : Nat)), (7, .int .i64 ((0 : Nat) : Int))] (scn rfl (scn rfl (scn rfl (scn rfl (Sub.nil _))))) ⟨0, by simp, by simp, rfl, hK⟩ ?_
 clear hK
 rintro jj m z ⟨i, rfl, hi, rfl, hK⟩
 refine aq1 ?_
 refine wc_condT rfl (fun h8 => ?_) (fun h8 => ?_)
 ·simp only [dtt, dff, beq_iff_eq, bff, ne_eq, bne_iff_ne, bne_eq_false_iff_eq, gt_iff_lt, ge_iff_le, Bool.not_eq_true', Bool.not_eq_false', Bool.and_eq_true] at h8
  refine aq0 ?_
  obtain ⟨l, hl'⟩ : ∃ l, ls[i]? = some l := ⟨_, gee (by omega)⟩
  refine aq0 ?_
  refine wvz (oJ (RowP.up hv _)) ?_
  refine wvz (v := .int .u64 l) (oM (Row.mk_pt (RowP.up hv z.h) hl')) ?_
  refine aq3 ?_
  refine wvz (v := .int .u64 (orI (joinL (ls.take i)) l)) (op_bin rfl rfl rfl) ?_
  refine aq1 ?_
  refine wad ?_
  refine aq1 ?_
  exact rn ⟨i + 1, rfl, by omega, by rw [show joinL (ls.take (i + 1)) = orI (joinL (ls.take i)) l by rw [← take_snoc hl', joinL, List.foldl_append]; rfl], hK⟩
 simp only [dtt, dff, beq_iff_eq, bff, ne_eq, bne_iff_ne, bne_eq_false_iff_eq, gt_iff_lt, ge_iff_le, Bool.not_eq_true', Bool.not_eq_false', Bool.and_eq_true] at h8
 obtain rfl : i = ls.length := by omega
 refine aq2 ?_
 exact ⟨_, rfl, hK, by rw [List.take_length]; rfl⟩
set_option maxRecDepth 10000 in
set_option maxHeartbeats 8000000 in
theorem within_ok {s : St} {a b : Int} (hok : s.Ok) :
  CallS Tryz.prog Tt Kt 75 [.int .u64 a, .int .u64 b] s fun r s' => Keep [] s s' ∧ r = .bool (wI a b) := by
 refine call_of (fn := Tryz.f75) (nt := 9) Tryz.func75 rfl rfl rfl ?_
 refine aq0 ?_
 have hS := SH.start hok
 have hK := hS.K
 refine aq6 ?_
 exact ⟨_, rfl, hK, rfl⟩
end Go.Ab
namespace Go.Ab
open Go.Proofs
theorem wI_bits (a b : Int) : wI a b = true ↔ ∀ k, k < 64 → (BitVec.ofInt 64 a).getLsbD k = true → (BitVec.ofInt 64 b).getLsbD k = true := by
 unfold wI
 rw [wrapNat (BitVec.isLt _), beq_iff_eq]
 have : (((BitVec.ofInt 64 a &&& ~~~ BitVec.ofInt 64 b).toNat : Int) = 0) ↔ (BitVec.ofInt 64 a &&& ~~~ BitVec.ofInt 64 b) = 0#64 := by
  constructor
  ·intro h
   apply BitVec.eq_of_toNat_eq
   simpa using h
  ·intro h; rw [h]; rfl
 rw [this]
 constructor
 ·intro h k hk ha
  have e := congrArg (fun x : BitVec 64 => x.getLsbD k) h
  simp only [BitVec.getLsbD_and, BitVec.getLsbD_not, BitVec.getLsbD_zero, ha, hk, decide_true, Bool.true_and] at e
  simpa using e
 ·intro h
  apply BitVec.eq_of_getLsbD_eq
  intro k hk
  simp only [BitVec.getLsbD_and, BitVec.getLsbD_not, BitVec.getLsbD_zero, hk, decide_true, Bool.true_and]
  cases e : (BitVec.ofInt 64 a).getLsbD k with
  | false => rfl
  | true => rw [h k hk e]; rfl
end Go.Ab
namespace Go.Ab
open Go.Proofs
theorem orI_nat {a b : Nat} (ha : a < 2 ^ 64) (hb : b < 2 ^ 64) : orI (a : Int) (b : Int) = ((a ||| b : Nat) : Int) := by
 unfold orI
 rw [wrapNat (BitVec.isLt _)]
 have e1 : BitVec.ofInt 64 (a : Int) = BitVec.ofNat 64 a := rfl
 have e2 : BitVec.ofInt 64 (b : Int) = BitVec.ofNat 64 b := rfl
 rw [e1, e2, BitVec.toNat_or, BitVec.toNat_ofNat, BitVec.toNat_ofNat, Nat.mod_eq_of_lt ha, Nat.mod_eq_of_lt hb]
theorem u64_nat {a : Int} (h : U64 a) : ∃ n : Nat, a = n ∧ n < 2 ^ 64 := ⟨a.toNat, by have := h.1; omega, by have := h.1; have := h.2; omega⟩
theorem wI_nat {a b : Nat} (ha : a < 2 ^ 64) (hb : b < 2 ^ 64) : wI (a : Int) (b : Int) = decide (a ||| b = b) := by
 rw [Bool.eq_iff_iff, wI_bits, decide_eq_true_iff]
 have e1 : BitVec.ofInt 64 (a : Int) = BitVec.ofNat 64 a := rfl
 have e2 : BitVec.ofInt 64 (b : Int) = BitVec.ofNat 64 b := rfl
 rw [e1, e2]
 constructor
 ·intro h
  refine Nat.eq_of_testBit_eq fun k => ?_
  rw [Nat.testBit_or]
  by_cases hk : k < 64
  ·have := h k hk
   rw [BitVec.getLsbD_ofNat, BitVec.getLsbD_ofNat, decide_eq_true hk, Bool.true_and, Bool.true_and] at this
   cases ea : a.testBit k with
   | false => rfl
   | true => rw [this ea]; rfl
  ·have h64 : 2 ^ 64 ≤ 2 ^ k := Nat.pow_le_pow_right (by omega) (by omega)
   rw [Nat.testBit_lt_two_pow (Nat.lt_of_lt_of_le ha h64)]; rfl
 ·intro h k hk ha'
  rw [BitVec.getLsbD_ofNat, decide_eq_true hk, Bool.true_and] at ha' ⊢
  rw [← h, Nat.testBit_or, ha']; rfl
def wN (a b : Nat) : Bool := decide (a ||| b = b)
theorem wN_or (a b t : Nat) : wN (a ||| b) t = (wN a t && wN b t) := by
 unfold wN
 rw [Bool.eq_iff_iff, Bool.and_eq_true, decide_eq_true_iff, decide_eq_true_iff, decide_eq_true_iff]
 constructor
 ·intro h
  constructor
  ·refine Nat.eq_of_testBit_eq fun k => ?_
   have := congrArg (fun x => x.testBit k) h
   simp only [Nat.testBit_or] at this ⊢
   revert this
   cases a.testBit k <;> cases b.testBit k <;> cases t.testBit k <;> decide
  ·refine Nat.eq_of_testBit_eq fun k => ?_
   have := congrArg (fun x => x.testBit k) h
   simp only [Nat.testBit_or] at this ⊢
   revert this
   cases a.testBit k <;> cases b.testBit k <;> cases t.testBit k <;> decide
 ·rintro ⟨h1, h2⟩
  rw [Nat.or_assoc, h2, h1]
theorem or64 {a b : Nat} (ha : a < 2 ^ 64) (hb : b < 2 ^ 64) : a ||| b < 2 ^ 64 := Nat.or_lt_two_pow ha hb
def labN (s : SrcL) (f : Int) (p : Int × Int) : Nat :=
 if p.1 = 1 then (((locN s f).map DeclL.label).getD p.2.toNat 0).toNat
 else if p.1 = 2 then ((s.globals.map DeclL.label).getD p.2.toNat 0).toNat
 else if p.1 = 3 then ((s.arrays.map ArrD.label).getD p.2.toNat 0).toNat
 else if p.1 = 4 then ((s.channels.map DeclL.label).getD p.2.toNat 0).toNat
 else 0
theorem lab64 {l : List Int} (h : ∀ a ∈ l, U64 a) (i : Nat) : (l.getD i 0).toNat < 2 ^ 64 := by
 rw [gdd]
 cases e : l[i]? with
 | none => simp
 | some a =>
  have := h a (mog e)
  have h1 := this.1
  have h2 := this.2
  simp only [Option.getD_some]
  omega
theorem locN_fine {x : SrcL} (h : x.fine) (f : Int) : ∀ d ∈ locN x f, d.fine := by
 unfold locN
 split
 ·split
  ·rename_i y hy
   intro d hd
   have hf := h.2.2.2.2 y (mog hy)
   rcases List.mem_append.1 hd with hd | hd
   ·exact hf.2.2.1 d hd
   ·exact hf.2.2.2.2 d hd
  ·simp
 ·simp
theorem labN_64 {x : SrcL} (h : x.fine) (f : Int) (p : Int × Int) : labN x f p < 2 ^ 64 := by
 have e : ∀ {α : Type} {g : α → Int} {l : List α}, (∀ a ∈ l, U64 (g a)) → ∀ a ∈ l.map g, U64 a := fun h a ha => by
  obtain ⟨b, hb, rfl⟩ := List.mem_map.1 ha
  exact h b hb
 unfold labN
 split
 ·exact lab64 (e fun d hd => (locN_fine h f d hd).2) _
 ·split
  ·exact lab64 (e fun d hd => (h.2.1 d hd).2) _
  ·split
   ·exact lab64 (e fun d hd => (h.2.2.1 d hd).2) _
   ·split
    ·exact lab64 (e fun d hd => (h.2.2.2.1 d hd).2) _
    ·omega
theorem fi_at {α : Type} {g : α → ByteArray} {l : List α} {nm : ByteArray} (h : 0 ≤ fiI (l.map g) nm) : ∃ (q : Nat) (d : α), fiI (l.map g) nm = q ∧ l[q]? = some d := by
 have h1 := (fiI_lt (l.map g) nm).2
 rw [lmm] at h1
 obtain ⟨q, hq⟩ := Int.eq_ofNat_of_zero_le h
 exact ⟨q, l[q]'(by omega), hq, gee (by omega)⟩
theorem gN_1 {s : SrcL} {nm : ByteArray} : (gN s nm).1 ≠ 1 := by
 unfold gN
 split
 ·simp
 ·split
  ·simp
  ·split
   ·simp
   ·split <;> simp
theorem fN_gl {x : SrcL} {f : Int} {nm : ByteArray} (h : (fN x f nm).1 ≠ 1) : fN x f nm = gN x nm := by
 unfold fN at h ⊢
 split
 ·rename_i h0
  rw [if_pos h0] at h
  exact (h rfl).elim
 ·rfl
section
variable {x : SrcL} {f : Int} {nm : ByteArray} {p : Int × Int}
theorem fN_1 (e : fN x f nm = p) (h : p.1 = 1) : ∃ (q : Nat) (d : DeclL), p.2 = q ∧ (locN x f)[q]? = some d ∧ labN x f p = d.label.toNat := by
 subst e
 by_cases h0 : 0 ≤ fiI ((locN x f).map DeclL.name) nm
 ·obtain ⟨q, d, h1, h2⟩ := fi_at h0
  have e : (fN x f nm).2 = q := by rw [fN, if_pos h0]; exact h1
  refine ⟨q, d, e, h2, ?_⟩
  rw [labN, if_pos h, e, gdd, Int.toNat_natCast, gmm, h2]; rfl
 ·rw [fN, if_neg h0] at h
  exact (gN_1 h).elim
theorem fN_2 (e : fN x f nm = p) (h : p.1 = 2) : ∃ (q : Nat) (d : DeclL), p.2 = q ∧ x.globals[q]? = some d ∧ labN x f p = d.label.toNat := by
 subst e
 have hg := fN_gl (x := x) (f := f) (nm := nm) (by rw [h]; decide)
 by_cases h0 : 0 ≤ fiI (x.globals.map DeclL.name) nm
 ·obtain ⟨q, d, h1, h2⟩ := fi_at h0
  have e : (fN x f nm).2 = q := by rw [hg, gN, if_pos h0]; exact h1
  refine ⟨q, d, e, h2, ?_⟩
  rw [labN, if_neg (by rw [h]; decide), if_pos h, e, gdd, Int.toNat_natCast, gmm, h2]; rfl
 ·rw [hg, gN, if_neg h0] at h
  split at h
  ·cases h
  ·split at h
   ·cases h
   ·split at h <;> cases h
theorem fN_3 (e : fN x f nm = p) (h : p.1 = 3) : ∃ (q : Nat) (d : ArrD), p.2 = q ∧ x.arrays[q]? = some d ∧ labN x f p = d.label.toNat := by
 subst e
 have hg := fN_gl (x := x) (f := f) (nm := nm) (by rw [h]; decide)
 by_cases h1 : 0 ≤ fiI (x.globals.map DeclL.name) nm
 ·rw [hg, gN, if_pos h1] at h; cases h
 by_cases h0 : 0 ≤ fiI (x.arrays.map ArrD.name) nm
 ·obtain ⟨q, d, k1, k2⟩ := fi_at h0
  have e : (fN x f nm).2 = q := by rw [hg, gN, if_neg h1, if_pos h0]; exact k1
  refine ⟨q, d, e, k2, ?_⟩
  rw [labN, if_neg (by rw [h]; decide), if_neg (by rw [h]; decide), if_pos h, e, gdd, Int.toNat_natCast, gmm, k2]; rfl
 ·rw [hg, gN, if_neg h1, if_neg h0] at h
  split at h
  ·cases h
  ·split at h <;> cases h
theorem fN_4 (e : fN x f nm = p) (h : p.1 = 4) : ∃ (q : Nat) (d : DeclL), p.2 = q ∧ x.channels[q]? = some d ∧ labN x f p = d.label.toNat := by
 subst e
 have hg := fN_gl (x := x) (f := f) (nm := nm) (by rw [h]; decide)
 by_cases h1 : 0 ≤ fiI (x.globals.map DeclL.name) nm
 ·rw [hg, gN, if_pos h1] at h; cases h
 by_cases h2 : 0 ≤ fiI (x.arrays.map ArrD.name) nm
 ·rw [hg, gN, if_neg h1, if_pos h2] at h; cases h
 by_cases h0 : 0 ≤ fiI (x.channels.map DeclL.name) nm
 ·obtain ⟨q, d, k1, k2⟩ := fi_at h0
  have e : (fN x f nm).2 = q := by rw [hg, gN, if_neg h1, if_neg h2, if_pos h0]; exact k1
  refine ⟨q, d, e, k2, ?_⟩
  rw [labN, if_neg (by rw [h]; decide), if_neg (by rw [h]; decide), if_neg (by rw [h]; decide), if_pos h, e, gdd, Int.toNat_natCast, gmm, k2]; rfl
 ·rw [hg, gN, if_neg h1, if_neg h2, if_neg h0] at h
  split at h <;> cases h
theorem labN_0 (h1 : p.1 ≠ 1) (h2 : p.1 ≠ 2) (h3 : p.1 ≠ 3) (h4 : p.1 ≠ 4) : labN x f p = 0 := by
 rw [labN, if_neg h1, if_neg h2, if_neg h3, if_neg h4]
end
def badT (s : SrcL) (f : Int) (t : TermL) : Bool := decide ((t.kind = 2 ∧ (fN s f t.name).1 ≠ 1 ∧ (fN s f t.name).1 ≠ 2) ∨ (t.kind = 3 ∧ (fN s f t.name).1 ≠ 3))
def tmL (s : SrcL) (f : Int) (t : TermL) : Nat := if t.kind = 2 ∨ t.kind = 3 then labN s f (fN s f t.name) else 0
def exL (s : SrcL) (f : Int) (ts : List TermL) : Nat := ts.foldl (fun l t => l ||| tmL s f t) 0
def exOk (s : SrcL) (f : Int) (ts : List TermL) : Bool := decide (0 ≤ f ∧ f < s.funcs.length) && ts.all fun t => !badT s f t
def exN (s : SrcL) (f : Int) (ts : List TermL) : Nat := if exOk s f ts = true then exL s f ts else 0
theorem exL_64 {s : SrcL} (h : s.fine) (f : Int) (ts : List TermL) : exL s f ts < 2 ^ 64 := by
 unfold exL
 have : ∀ (ts : List TermL) (a : Nat), a < 2 ^ 64 → ts.foldl (fun l t => l ||| tmL s f t) a < 2 ^ 64 := by
  intro ts
  induction ts with
  | nil => exact fun a h => h
  | cons t ts ih =>
   intro a ha
   rw [fcc]
   refine ih _ (or64 ha ?_)
   unfold tmL
   split
   ·exact labN_64 h f _
   ·decide
 exact this ts 0 (by decide)
theorem exN_64 {s : SrcL} (h : s.fine) (f : Int) (ts : List TermL) : exN s f ts < 2 ^ 64 := by
 unfold exN
 split
 ·exact exL_64 h f ts
 ·decide
theorem exL_snoc {s : SrcL} {f : Int} {ts : List TermL} {i : Nat} {t : TermL} (h : ts[i]? = some t) : exL s f (ts.take (i + 1)) = exL s f (ts.take i) ||| tmL s f t := by
 rw [← take_snoc h, exL, List.foldl_append]; rfl
theorem exOk_no {s : SrcL} {f : Int} {ts : List TermL} {i : Nat} {t : TermL} (h : ts[i]? = some t) (hb : badT s f t = true) : exOk s f ts = false := by
 have : (ts.all fun t => !badT s f t) = false := by
  rw [← Bool.not_eq_true, aet]
  intro k
  have := k t (mog h)
  rw [hb] at this
  cases this
 rw [exOk, this, Bool.and_false]
theorem exOk_all {s : SrcL} {f : Int} {ts : List TermL} (hf : 0 ≤ f ∧ f < s.funcs.length) (h : ∀ (i : Nat) (t : TermL), ts[i]? = some t → badT s f t = false) : exOk s f ts = true := by
 rw [exOk, decide_eq_true hf, Bool.true_and, aet]
 intro t ht
 obtain ⟨i, hi⟩ := List.getElem?_of_mem ht
 rw [h i t hi]; rfl
end Go.Ab
namespace Go.Ab
open Go.Proofs
section
variable {T : Tab} {nt : NT} {m : Sy} {s : St}
theorem op_subE {xt yt : TypeId} {x y : Operand} {a b r : Int} (hx : evY m x = some (.int .i64 a)) (hy : evY m y = some (.int .i64 b)) (h : In64 (a - b)) (e : a - b = r) :
  ∀ t, Has t nt m → evOp T (.binOp .sub xt x y yt) t s = some (.val (.int .i64 r), s) := by subst e; exact op_sub hx hy h
end
theorem u64_cast {a : Int} (h : U64 a) : ((a.toNat : Nat) : Int) = a := by have := h.1; omega
set_option maxRecDepth 10000 in
set_option maxHeartbeats 8000000 in
theorem of_ok {s : St} {c : List AV} {x : SrcL} {k : Nat} {y : FunL} {nm : ByteArray} {a b : Int} (hok : s.Ok) (hx : x.small) (hfi : x.fine) (hv : SrcP x c) (hy : x.funcs[k]? = some y) (hp : fN x (k : Nat) nm = (a, b)) :
  CallS Tryz.prog Tt Kt 77 [.agg c, .int .i64 (k : Nat), .agg [.int .i64 a, .int .i64 b]] s fun r s' => Keep [] s s' ∧ r = .int .u64 (labN x (k : Nat) (a, b) : Nat) := by
 have hz := hv.leaf
 obtain ⟨vp, vg, va, vc, vf, rfl, hvp, hvg, hva, hvc, csf, hrf, hlf, hF⟩ := id hv
 obtain ⟨hl1, hl2, hl3, hl4, hl5, hsm⟩ := id hx
 have hsf : vf.slen = some x.funcs.length := by rw [hrf.slen, hlf]
 have hkl := (ges.1 hy).1
 obtain ⟨cy, hcy⟩ : ∃ c, csf[k]? = some c := ⟨_, gee (by omega)⟩
 obtain ⟨yp, yr, yv, yb, rfl, hyp, hyr, hyv, hyb⟩ := hF k y cy hy hcy
 obtain ⟨hy1, hy2, hy3, hy4, hy5⟩ := id (hsm y (mog hy))
 have hyf := hfi.2.2.2.2 y (mog hy)
 have hsp : yp.slen = some y.params.length := by rw [hyp.slen, lmm]
 refine call_of (fn := Tryz.f77) (nt := 70) Tryz.func77 rfl rfl rfl ?_
 refine aq0 ?_
 have hS := SH.start hok
 refine aq0 ?_
 refine ws_box hS rfl rfl rfl hz ?_
 rintro p0 z hS hk
 have hS : SH _ [_] z _ := hS
 refine ws_box hS rfl rfl rfl (by rfl) ?_
 rintro p1 z hS hk
 have hS : SH _ [_, _] z _ := hS
 have hK := hS.K
 refine aq2 ?_
 refine wvz (oL 1 hS) ?_
 refine aq2 ?_
 refine wcb (fun h10 => ?_) (fun h10 => ?_)
 ·obtain ⟨q, d, hq, hd, hl⟩ := fN_1 hp h10
  have hq : b = (q : Nat) := hq
  subst hq
  rw [locN_in hy] at hd
  have hdl : q < y.params.length + y.vars.length := by have := (ges.1 hd).1; rwa [laa] at this
  refine aq1 ?_
  refine wvz (v := vf) (oL 0 hS) ?_
  refine aq1 ?_
  refine wvz (oI (RowP.up hrf _)) ?_
  refine wvz (oF (Row.pt (RowP.up hrf z.h) hcy)) ?_
  refine wvz (v := yp) (oM (Pt.fld (Row.pt (RowP.up hrf z.h) hcy) _ (nl rfl))) ?_
  refine aq2 ?_
  refine wvz (oL 1 hS) ?_
  refine aq1 ?_
  refine wvz (oN hsp) ?_
  refine aq1 ?_
  refine wcd (fun h22 => ?_) (fun h22 => ?_)
  ·have hlt : q < y.params.length := by omega
   rw [gal hlt] at hd
   have hdf := hyf.2.2.1 d (mog hd)
   refine aq2 ?_
   refine wvz (oL 1 hS) ?_
   refine wvz (oJ (RowP.up hyp _)) ?_
   refine wvz (oF (Row.mk_pt (RowP.up hyp z.h) hd)) ?_
   refine wvz (v := .int .u64 d.label) (oM (Pt.fld (Row.mk_pt (RowP.up hyp z.h) hd) _ (nl rfl))) ?_
   refine aq1 ?_
   exact ⟨_, rfl, hK, by rw [hl, u64_cast hdf.2]; rfl⟩
  have hlt : y.params.length ≤ q := by omega
  rw [gar hlt] at hd
  have hdf := hyf.2.2.2.2 d (mog hd)
  have hqs : (q : Int) - (y.params.length : Int) = ((q - y.params.length : Nat) : Int) := by omega
  refine aq0 ?_
  refine wc_draw (fun _ => True) (by kernel_rfl) rfl ?_
  refine wdv (op_fldP rfl rfl rfl rfl (by decide)) ?_
  refine wdv (v := vf) (oM (Pt.bare ((hS.pt 0 rfl).at (nl rfl)))) ?_
  refine aq1 ?_
  refine wdv (oI (RowP.up hrf _)) ?_
  refine wdv (oF (Row.pt (RowP.up hrf _) hcy)) ?_
  refine wdv (v := yv) (oM (Pt.fld (Row.pt (RowP.up hrf _) hcy) _ (nl rfl))) ?_
  refine wdv (op_fldP rfl rfl rfl rfl (by decide)) ?_
  refine wdv (oM (Pt.bare ((hS.pt 1 rfl).at (nl rfl)))) ?_
  refine aq1 ?_
  refine wdv (oN hsp) ?_
  refine wdv (v := .int .i64 ((q - y.params.length : Nat) : Int)) (op_subE rfl rfl (by unfold In64; omega) hqs) ?_
  refine wdv (oJ (RowP.up hyv _)) ?_
  refine wdv (oF (Row.mk_pt (RowP.up hyv _) hd)) ?_
  refine wdv (v := .int .u64 d.label) (oM (Pt.fld (Row.mk_pt (RowP.up hyv _) hd) _ (nl rfl))) ?_
  refine aq1 ?_
  exact ⟨_, rfl, hK, by rw [hl, u64_cast hdf.2]; rfl⟩
 refine aq2 ?_
 refine wcb (fun h43 => ?_) (fun h43 => ?_)
 ·obtain ⟨q, d, hq, hd, hl⟩ := fN_2 hp h43
  have hq : b = (q : Nat) := hq
  subst hq
  have hdl := (ges.1 hd).1
  have hdf := hfi.2.1 d (mog hd)
  refine aq1 ?_
  refine wvz (v := vg) (oL 0 hS) ?_
  refine aq1 ?_
  refine wvz (oL 1 hS) ?_
  refine wvz (oJ (RowP.up hvg _)) ?_
  refine wvz (oF (Row.mk_pt (RowP.up hvg z.h) hd)) ?_
  refine wvz (v := .int .u64 d.label) (oM (Pt.fld (Row.mk_pt (RowP.up hvg z.h) hd) _ (nl rfl))) ?_
  refine aq1 ?_
  exact ⟨_, rfl, hK, by rw [hl, u64_cast hdf.2]; rfl⟩
 refine aq2 ?_
 refine wcb (fun h52 => ?_) (fun h52 => ?_)
 ·obtain ⟨q, d, hq, hd, hl⟩ := fN_3 hp h52
  have hq : b = (q : Nat) := hq
  subst hq
  have hdl := (ges.1 hd).1
  have hdf := hfi.2.2.1 d (mog hd)
  refine aq1 ?_
  refine wvz (v := va) (oL 0 hS) ?_
  refine aq1 ?_
  refine wvz (oL 1 hS) ?_
  refine wvz (oJ (RowP.up hva _)) ?_
  refine wvz (oF (Row.mk_pt (RowP.up hva z.h) hd)) ?_
  refine wvz (v := .int .u64 d.label) (oM (Pt.fld (Row.mk_pt (RowP.up hva z.h) hd) _ (nl rfl))) ?_
  refine aq1 ?_
  exact ⟨_, rfl, hK, by rw [hl, u64_cast hdf.2]; rfl⟩
 refine aq2 ?_
 refine wcb (fun h61 => ?_) (fun h61 => ?_)
 ·obtain ⟨q, d, hq, hd, hl⟩ := fN_4 hp h61
  have hq : b = (q : Nat) := hq
  subst hq
  have hdl := (ges.1 hd).1
  have hdf := hfi.2.2.2.1 d (mog hd)
  refine aq1 ?_
  refine wvz (v := vc) (oL 0 hS) ?_
  refine aq1 ?_
  refine wvz (oL 1 hS) ?_
  refine wvz (oJ (RowP.up hvc _)) ?_
  refine wvz (oF (Row.mk_pt (RowP.up hvc z.h) hd)) ?_
  refine wvz (v := .int .u64 d.label) (oM (Pt.fld (Row.mk_pt (RowP.up hvc z.h) hd) _ (nl rfl))) ?_
  refine aq1 ?_
  exact ⟨_, rfl, hK, by rw [hl, u64_cast hdf.2]; rfl⟩
 refine aq1 ?_
 exact ⟨_, rfl, hK, by rw [labN_0 h10 h43 h52 h61]; rfl⟩
end Go.Ab
namespace Go.Ab
def k57 (ks : List Int) (k : Nat) : Prop := ks.getD k 0 = 5 ∨ ks.getD k 0 = 7
structure Stp (ks : List Int) (i : Nat) (a b : E1) : Prop where
 opn : ∀ k ∈ b.opn, k ∈ a.opn ∨ k = i
 same : ∀ k, k < i → k57 ks k → k ∉ a.opn → b.ends.getD k 0 = a.ends.getD k 0
 shut : ∀ k ∈ a.opn, k ∉ b.opn → b.ends.getD k 0 = i ∧ a.opn.getLast? = some k ∧ ks.getD i 0 = 8
 els : ∀ k, k < i → 0 ≤ a.elses.getD k 0 → b.elses.getD k 0 = a.elses.getD k 0
 stay : ks.getD i 0 ≠ 8 → ∀ k ∈ a.opn, k ∈ b.opn
 drop : ks.getD i 0 = 8 → b.opn = a.opn.dropLast ∧ a.opn ≠ []
 opens : k57 ks i → b.opn = a.opn ++ [i]
 other : ¬ k57 ks i → ks.getD i 0 ≠ 8 → b.opn = a.opn
 six : ks.getD i 0 = 6 → ∃ o, a.opn.getLast? = some o ∧ b.elses.getD o 0 = i
 e6 : ∀ k ∈ a.opn, k ∉ b.opn → 0 ≤ b.elses.getD k 0 → b.ends.getD (b.elses.getD k 0).toNat 0 = i
 keep6 : ∀ k, k < i → k ∉ a.opn → 0 ≤ a.elses.getD k 0 → b.ends.getD (a.elses.getD k 0).toNat 0 = a.ends.getD (a.elses.getD k 0).toNat 0
theorem iter_prev {ks : List Int} {j : Nat} {b : E1} (h : iter1 ks j = some b) : ∀ i, i ≤ j → ∃ a, iter1 ks i = some a := by
 intro i hi
 cases e : iter1 ks i with
 | none => rw [iter1_none e j hi] at h; cases h
 | some a => exact ⟨a, rfl⟩
structure Shut (ks : List Int) (i : Nat) (a : E1) : Prop where
 cl : ∀ k, k < i → k57 ks k → k ∉ a.opn → ∃ j a', a.ends.getD k 0 = (j : Nat) ∧ j < i ∧ iter1 ks j = some a' ∧ a'.opn.getLast? = some k
 e6 : ∀ k, k < i → k57 ks k → k ∉ a.opn → 0 ≤ a.elses.getD k 0 → a.ends.getD (a.elses.getD k 0).toNat 0 = a.ends.getD k 0
def exOr (lv : Nat) (w : Nat → Nat) (l : List Nat) : Nat := l.foldl (fun a k => a ||| w k) lv
def lvOpn (ks : List Int) (i : Nat) (a : E1) : List Nat := if ks.getD i 0 = 6 ∨ ks.getD i 0 = 8 then a.opn.dropLast else a.opn
end Go.Ab
namespace Go.Ab
open Go.Proofs
def cndL (s : SrcL) (f : Int) (es : List (List TermL)) (a : Nat) : Nat := es.foldl (fun l e => l ||| exN s f e) a
theorem cndL_from (s : SrcL) (f : Int) : ∀ (es : List (List TermL)) (a : Nat), cndL s f es a = a ||| cndL s f es 0
 | [], a => by simp [cndL]
 | e :: es, a => by
  have h1 := cndL_from s f es (a ||| exN s f e)
  have h2 := cndL_from s f es (0 ||| exN s f e)
  unfold cndL at h1 h2 ⊢
  rw [fcc, fcc, h1, h2, Nat.zero_or, Nat.or_assoc]
theorem cndL_64 {s : SrcL} (h : s.fine) (f : Int) : ∀ (es : List (List TermL)) {a : Nat}, a < 2 ^ 64 → cndL s f es a < 2 ^ 64
 | [], a, ha => ha
 | e :: es, a, ha => by
  have := cndL_64 h f es (or64 ha (exN_64 h f e))
  unfold cndL at this ⊢
  rw [fcc]; exact this
theorem cndL_snoc {s : SrcL} {f : Int} {es : List (List TermL)} {i : Nat} {e : List TermL} {a : Nat} (h : es[i]? = some e) : cndL s f (es.take (i + 1)) a = cndL s f (es.take i) a ||| exN s f e := by
 rw [← take_snoc h, cndL, List.foldl_append]; rfl
def blkW (s : SrcL) (f : Int) (y : FunL) (k : Nat) : Nat := match y.body[k]? with
 | some x => cndL s f x.exprs 0
 | none => 0
theorem blkW_at {s : SrcL} {f : Int} {y : FunL} {k : Nat} {x : StmtL} (h : y.body[k]? = some x) : blkW s f y k = cndL s f x.exprs 0 := by unfold blkW; rw [h]
theorem blkW_64 {s : SrcL} (h : s.fine) (f : Int) (y : FunL) (k : Nat) : blkW s f y k < 2 ^ 64 := by
 unfold blkW
 split
 ·exact cndL_64 h f _ (by decide)
 ·decide
theorem exOr_64 {lv : Nat} {w : Nat → Nat} (hw : ∀ k, w k < 2 ^ 64) : ∀ (l : List Nat) {lv : Nat}, lv < 2 ^ 64 → exOr lv w l < 2 ^ 64
 | [], _, h => h
 | k :: l, lv, h => by
  have := exOr_64 (lv := lv) hw l (or64 h (hw k))
  unfold exOr at this ⊢
  rw [fcc]; exact this
theorem exOr_snoc (lv : Nat) (w : Nat → Nat) (l : List Nat) (k : Nat) : exOr lv w (l ++ [k]) = exOr lv w l ||| w k := by
 rw [exOr, List.foldl_append]; rfl
def uC (n : Nat) : List AV := [.int .u64 (n : Nat)]
def stkN (lv : Nat) (w : Nat → Nat) (l : List Nat) : List Nat := (List.range (l.length + 1)).map fun j => exOr lv w (l.take j)
theorem stkN_len (lv : Nat) (w : Nat → Nat) (l : List Nat) : (stkN lv w l).length = l.length + 1 := by simp [stkN]
theorem stkN_get {lv : Nat} {w : Nat → Nat} {l : List Nat} {j : Nat} (h : j ≤ l.length) : (stkN lv w l)[j]? = some (exOr lv w (l.take j)) := by
 rw [stkN, gmm, List.getElem?_range (by omega)]; rfl
theorem stkN_snoc (lv : Nat) (w : Nat → Nat) (l : List Nat) (k : Nat) : stkN lv w (l ++ [k]) = stkN lv w l ++ [exOr lv w l ||| w k] := by
 rw [stkN, laa, List.length_singleton, List.range_succ, List.map_append, stkN]
 congr 1
 ·refine List.map_congr_left fun j hj => ?_
  rw [List.mem_range] at hj
  rw [List.take_append_of_le_length (by omega)]
 ·rw [List.map_singleton, List.take_of_length_le (by simp), exOr_snoc]
theorem stkN_pop {lv : Nat} {w : Nat → Nat} {l : List Nat} (h : l ≠ []) : stkN lv w l.dropLast = (stkN lv w l).take l.length := by
 have hl : 0 < l.length := List.length_pos_iff.2 h
 rw [stkN, stkN, ← List.map_take, List.take_range, List.length_dropLast]
 have e : min l.length (l.length + 1) = l.length - 1 + 1 := by omega
 rw [e]
 refine List.map_congr_left fun j hj => ?_
 rw [List.mem_range] at hj
 rw [List.dropLast_eq_take, List.take_take, Nat.min_eq_left (by omega)]
theorem stkN_top (lv : Nat) (w : Nat → Nat) (l : List Nat) : (stkN lv w l)[l.length]? = some (exOr lv w l) := by rw [stkN_get (nlr _), List.take_length]
theorem stkN_sub {lv : Nat} {w : Nat → Nat} {l : List Nat} : (stkN lv w l)[l.length - 1]? = some (exOr lv w l.dropLast) := by
 rw [stkN_get (by omega), List.dropLast_eq_take]
section
variable {ks : List Int} {i : Nat} {a b : E1}
theorem opn_57 (h : iter1 ks i = some a) (k : iter1 ks (i + 1) = some b) (hk : ks.getD i 0 = 5 ∨ ks.getD i 0 = 7) : b.opn = a.opn ++ [i] := by
 rw [iter1, h] at k
 have k : step1 ks i a = some b := k
 rw [step1, if_pos hk] at k
 cases k; rfl
theorem opn_6 (h : iter1 ks i = some a) (k : iter1 ks (i + 1) = some b) (hk : ks.getD i 0 = 6) : a.opn ≠ [] ∧ b.opn = a.opn := by
 rw [iter1, h] at k
 have k : step1 ks i a = some b := k
 rw [step1, if_neg (by omega), if_pos hk] at k
 split at k
 ·cases k
 ·rename_i o ho
  split at k
  ·cases k
  ·cases k
   exact ⟨fun e => by rw [e] at ho; exact absurd ho (by simp), rfl⟩
theorem opn_8 (h : iter1 ks i = some a) (k : iter1 ks (i + 1) = some b) (hk : ks.getD i 0 = 8) : a.opn ≠ [] ∧ b.opn = a.opn.dropLast := by
 rw [iter1, h] at k
 have k : step1 ks i a = some b := k
 rw [step1, if_neg (by omega), if_neg (by omega), if_pos hk] at k
 split at k
 ·cases k
 ·rename_i o ho
  cases k
  exact ⟨fun e => by rw [e] at ho; exact absurd ho (by simp), rfl⟩
theorem opn_same (h : iter1 ks i = some a) (k : iter1 ks (i + 1) = some b) (h5 : ks.getD i 0 ≠ 5) (h7 : ks.getD i 0 ≠ 7) (h8 : ks.getD i 0 ≠ 8) : b.opn = a.opn := by
 by_cases h6 : ks.getD i 0 = 6
 ·exact (opn_6 h k h6).2
 ·rw [iter1, h] at k
  have k : step1 ks i a = some b := k
  rw [step1, if_neg (by omega), if_neg h6, if_neg h8] at k
  cases k; rfl
end
def levI (s : SrcL) (f : Int) (y : FunL) (i : Nat) : Nat := match iter1 (kinds y) i with
 | some a => exOr y.level.toNat (blkW s f y) (lvOpn (kinds y) i a)
 | none => 0
theorem levI_at {s : SrcL} {f : Int} {y : FunL} {i : Nat} {a : E1} (h : iter1 (kinds y) i = some a) : levI s f y i = exOr y.level.toNat (blkW s f y) (lvOpn (kinds y) i a) := by unfold levI; rw [h]
theorem levI_68 {s : SrcL} {f : Int} {y : FunL} {i : Nat} {a : E1} (h : iter1 (kinds y) i = some a) (k : (kinds y).getD i 0 = 6 ∨ (kinds y).getD i 0 = 8) : levI s f y i = exOr y.level.toNat (blkW s f y) a.opn.dropLast := by
 rw [levI_at h, lvOpn, if_pos k]
theorem levI_else {s : SrcL} {f : Int} {y : FunL} {i : Nat} {a : E1} (h : iter1 (kinds y) i = some a) (h6 : (kinds y).getD i 0 ≠ 6) (h8 : (kinds y).getD i 0 ≠ 8) : levI s f y i = exOr y.level.toNat (blkW s f y) a.opn := by
 rw [levI_at h, lvOpn, if_neg (by omega)]
theorem levI_64 {s : SrcL} (h : s.fine) {f : Int} {y : FunL} (hy : U64 y.level) (i : Nat) : levI s f y i < 2 ^ 64 := by
 unfold levI
 split
 ·refine exOr_64 (lv := 0) (blkW_64 h f y) _ ?_
  have := hy.1
  have := hy.2
  omega
 ·decide
theorem iter_some {ks : List Int} (h : (ends1 ks).isSome = true) {i : Nat} (hi : i ≤ ks.length) : ∃ a, iter1 ks i = some a := by
 unfold ends1 at h
 split at h
 ·cases h
 ·rename_i z hz
  exact iter_prev hz i hi
def levY (s : SrcL) (f : Int) (y : FunL) : List Nat := if (ends1 (kinds y)).isSome = true then (List.range y.body.length).map (levI s f y) else []
def levsN (s : SrcL) (f : Int) : List Nat := if 0 ≤ f ∧ f < s.funcs.length then match s.funcs[f.toNat]? with
  | some y => levY s f y
  | none => []
 else []
theorem levsN_in {s : SrcL} {k : Nat} {y : FunL} (h : s.funcs[k]? = some y) : levsN s (k : Nat) = levY s (k : Nat) y := by
 have := (ges.1 h).1
 rw [levsN, if_pos ⟨by omega, by omega⟩]
 simp [h]
end Go.Ab
namespace Go.Ab
open Go.Proofs
def nmL (s : SrcL) (f : Int) (nm : ByteArray) : Nat := labN s f (fN s f nm)
def lsN (s : SrcL) (f : Int) (x : StmtL) : List Nat := x.exprs.map (exN s f)
theorem lsN_64 {s : SrcL} (h : s.fine) (f : Int) (x : StmtL) (i : Nat) : (lsN s f x).getD i 0 < 2 ^ 64 := by
 rw [lsN, gdd, gmm]
 cases x.exprs[i]? with
 | none => exact (by decide : (0 : Nat) < 2 ^ 64)
 | some e => exact exN_64 h f e
def callK (s : SrcL) (k : Nat) (g : FunL) (x : StmtL) (lv : Nat) : Bool :=
 (List.range x.exprs.length).all (fun i => wN ((lsN s k x).getD i 0 ||| lv) ((g.params.map DeclL.label).getD i 0).toNat) && wN lv g.level.toNat && (List.range x.targets.length).all fun i => wN ((g.results.getD i 0).toNat ||| lv) (nmL s k (x.targets.getD i ByteArray.empty))
def keptK (s : SrcL) (k : Nat) (y : FunL) (x : StmtL) (lv : Nat) : Bool :=
 if x.kind = 1 then wN ((lsN s k x).getD 0 0 ||| lv) (nmL s k (x.targets.getD 0 ByteArray.empty))
 else if x.kind = 2 then wN ((lsN s k x).getD 0 0 ||| lv) (nmL s k x.name) && wN ((lsN s k x).getD 1 0 ||| lv) (nmL s k x.name)
 else if x.kind = 3 then wN ((lsN s k x).getD 0 0 ||| lv) (nmL s k x.name)
 else if x.kind = 4 then match s.funcs[(fN s k x.name).2.toNat]? with
  | some g => callK s k g x lv
  | none => true
 else if x.kind = 9 then (List.range x.exprs.length).all fun i => wN ((lsN s k x).getD i 0 ||| lv) (y.results.getD i 0).toNat
 else true
structure InO (s : SrcL) (k : Nat) (y : FunL) (x : StmtL) : Prop where
 fit : fitK x.kind x.targets.length x.exprs.length (empI x.name)
 call : x.kind = 4 → ∃ (q : Nat) (g : FunL), (fN s k x.name).1 = 5 ∧ (fN s k x.name).2 = q ∧ s.funcs[q]? = some g ∧ x.exprs.length = g.params.length ∧ (x.targets.length = 0 ∨ x.targets.length = g.results.length)
 ret : x.kind = 9 → x.exprs.length = y.results.length
theorem Off.l {l r : List (Bool × Flt)} (h : Off (l ++ r)) : Off l := fun p hp => h p (List.mem_append_left _ hp)
theorem Off.r {l r : List (Bool × Flt)} (h : Off (l ++ r)) : Off r := fun p hp => h p (List.mem_append_right _ hp)
theorem InO.of {s : SrcL} {k i : Nat} {y : FunL} {x : StmtL} (h : Off (stmtT s k y i x)) : InO s k y x := by
 rw [stmtT_eq] at h
 have hA := h.l
 have hU := h.r.l
 have hR := h.r.r.l
 have hC := h.r.r.r
 refine ⟨?_, fun hk => ?_, fun hk => ?_⟩
 ·have := hA _ (mcs ..)
  simp only [Bool.not_eq_false'] at this
  rw [fitsN, Bool.and_eq_true, decide_eq_true_iff] at this
  exact this.2
 ·have h5 := call_kind hU hk
  obtain ⟨q, g, e, hg⟩ := fN_fn h5
  refine ⟨q, g, h5, e, hg, ?_⟩
  unfold callT at hC
  rw [if_pos ⟨hk, h5⟩, e, Int.toNat_natCast, hg] at hC
  have := hC _ (mcs ..)
  simp only [Bool.or_eq_false_iff, Bool.and_eq_false_iff, bne_eq_false_iff_eq, dff] at this
  omega
 ·unfold retT at hR
  rw [if_pos hk] at hR
  have := hR _ (mcs ..)
  simp only [bne_eq_false_iff_eq] at this
  omega
def flowT (s : SrcL) (k : Nat) (y : FunL) (i : Nat) : List (Bool × Flt) := match y.body[i]? with
 | some x => [(!keptK s k y x (levI s k y i), ⟨80, k, i⟩)]
 | none => []
def flowF (s : SrcL) (k : Nat) : List (Bool × Flt) := match s.funcs[k]? with
 | some y => (List.range y.body.length).flatMap (flowT s k y)
 | none => []
noncomputable def chkL (s : SrcL) : List (Bool × Flt) := checkL s ++ (List.range s.funcs.length).flatMap (flowF s)
theorem flowT_at {s : SrcL} {k i : Nat} {y : FunL} {x : StmtL} (h : y.body[i]? = some x) : flowT s k y i = [(!keptK s k y x (levI s k y i), ⟨80, k, i⟩)] := by unfold flowT; rw [h]
theorem flowF_at {s : SrcL} {k : Nat} {y : FunL} (h : s.funcs[k]? = some y) : flowF s k = (List.range y.body.length).flatMap (flowT s k y) := by unfold flowF; rw [h]
theorem Off.flat {α : Type} {l : List α} {g : α → List (Bool × Flt)} (h : Off (l.flatMap g)) {a : α} (ha : a ∈ l) : Off (g a) := fun p hp => h p (List.mem_flatMap.2 ⟨a, ha, hp⟩)
theorem ord_fun {s : SrcL} (h : Off (checkL s)) {k : Nat} {y : FunL} (hy : s.funcs[k]? = some y) : Off (headT s k y ++ (List.range y.body.length).flatMap (stmtI s k y)) := by
 have hk := (ges.1 hy).1
 have : Off (funT s k) := by
  rw [checkL, checkL_eq] at h
  exact h.r.flat (List.mem_range.2 hk)
 unfold funT at this
 rw [hy] at this
 exact this
theorem ord_stmt {s : SrcL} (h : Off (checkL s)) {k i : Nat} {y : FunL} {x : StmtL} (hy : s.funcs[k]? = some y) (hx : y.body[i]? = some x) : InO s k y x := by
 have hi := (ges.1 hx).1
 have h1 : Off (stmtI s k y i) := (ord_fun h hy).r.flat (List.mem_range.2 hi)
 unfold stmtI at h1
 rw [hx] at h1
 exact InO.of h1
theorem ord_ends {s : SrcL} (h : Off (checkL s)) {k : Nat} {y : FunL} (hy : s.funcs[k]? = some y) : (ends1 (kinds y)).isSome = true := by
 have h1 : Off (headT s k y) := (ord_fun h hy).l
 unfold headT at h1
 have h2 := h1.r _ (mcs ..)
 simp only [Bool.or_eq_false_iff, Bool.not_eq_false'] at h2
 exact h2.1
theorem flow_hit {s : SrcL} (h : Off (checkL s)) {k i : Nat} {y : FunL} {x : StmtL} (hy : s.funcs[k]? = some y) (hx : y.body[i]? = some x) (h1 : Off ((List.range k).flatMap (flowF s))) (h2 : Off ((List.range i).flatMap (flowT s k y))) (h3 : keptK s k y x (levI s k y i) = false) : firstF (chkL s) = ⟨80, k, i⟩ := by
 have hk := (ges.1 hy).1
 have hi := (ges.1 hx).1
 obtain ⟨r, hr⟩ := range_split (flowF s) (show k + 1 ≤ s.funcs.length from hk)
 obtain ⟨r2, hr2⟩ := range_split (flowT s k y) (show i + 1 ≤ y.body.length from hi)
 rw [chkL, firstF_off h, hr, range_flat, flowF_at hy, hr2, range_flat, flowT_at hx, h3, aas, firstF_off h1, aas, aas, firstF_off h2]
 rfl
theorem flow_off {s : SrcL} (h : Off (checkL s)) (h1 : Off ((List.range s.funcs.length).flatMap (flowF s))) : firstF (chkL s) = ⟨0, 0, 0⟩ := by
 rw [chkL, firstF_off h, firstF_off' h1]
theorem chk_err {s : SrcL} (h : (firstF (checkL s)).err ≠ 0) : firstF (chkL s) = firstF (checkL s) := firstF_more (good_check s _) h
theorem good_chk (s : SrcL) : GoodF (checkL s) := good_check s _
end Go.Ab
namespace Go.Ab
open Go.Proofs
theorem fN_rng (x : SrcL) (f : Int) (nm : ByteArray) : 0 ≤ (fN x f nm).1 ∧ (fN x f nm).1 ≤ 5 := by
 unfold fN
 split
 ·simp
 ·unfold gN
  split
  ·simp
  ·split
   ·simp
   ·split
    ·simp
    ·split <;> simp
theorem bad_or {x : SrcL} {f : Int} {t : TermL} {a b : Int} (hp : fN x f t.name = (a, b)) (hk : t.kind = 2 ∨ t.kind = 3) : badT x f t = ((!((t.kind == 3) == (a == 3))) || (a == 4) || (a == 5) || (a == 0)) := by
 have hr := fN_rng x f t.name
 rw [hp] at hr
 have hr : 0 ≤ a ∧ a ≤ 5 := hr
 have h6 : a = 0 ∨ a = 1 ∨ a = 2 ∨ a = 3 ∨ a = 4 ∨ a = 5 := by omega
 unfold badT
 rw [hp]
 rcases hk with e | e <;> rw [e] <;> rcases h6 with rfl | rfl | rfl | rfl | rfl | rfl <;> rfl
theorem tmL_23 {x : SrcL} {f : Int} {t : TermL} {p : Int × Int} (hp : fN x f t.name = p) (hk : t.kind = 2 ∨ t.kind = 3) : tmL x f t = labN x f p := by rw [tmL, if_pos hk, hp]
theorem tmL_0 {x : SrcL} {f : Int} {t : TermL} (h2 : ¬ t.kind = 2) (h3 : ¬ t.kind = 3) : tmL x f t = 0 := if_neg (by omega)
theorem bad_0 {x : SrcL} {f : Int} {t : TermL} (h2 : ¬ t.kind = 2) (h3 : ¬ t.kind = 3) : badT x f t = false := decide_eq_false (by omega)
theorem join_two {a b : Nat} (ha : a < 2 ^ 64) (hb : b < 2 ^ 64) : joinL [(a : Int), (b : Int)] = ((a ||| b : Nat) : Int) := by
 show orI (orI 0 a) b = _
 have := orI_nat (a := 0) (by decide) ha
 rw [Nat.zero_or] at this
 rw [show (0 : Int) = ((0 : Nat) : Int) from rfl, this, orI_nat ha hb]
theorem exOk_fin {x : SrcL} {k : Nat} {ts : List TermL} (hk : k < x.funcs.length) (h : ∀ (i : Nat) (t : TermL), i < ts.length → ts[i]? = some t → badT x (k : Nat) t = false) : exOk x (k : Nat) ts = true :=
 exOk_all ⟨by omega, by omega⟩ fun i t ht => h i t (ges.1 ht).1 ht
theorem exN_ok {x : SrcL} {f : Int} {ts : List TermL} (h : exOk x f ts = true) : exN x f ts = exL x f ts := if_pos h
theorem exN_no {x : SrcL} {f : Int} {ts : List TermL} (h : exOk x f ts = false) : exN x f ts = 0 := by rw [exN, h]; rfl
set_option maxRecDepth 10000 in
set_option maxHeartbeats 8000000 in
theorem expr_ok {s : St} {c : List AV} {x : SrcL} {k : Nat} {y : FunL} {v : AV} {ts : List TermL} (hok : s.Ok) (hx : x.small) (hfi : x.fine) (hv : SrcP x c) (hy : x.funcs[k]? = some y) (htl : ts.length ≤ 2097152) (hvt : RowP 3 v (ts.map tC)) :
  CallS Tryz.prog Tt Kt 38 [.agg c, .int .i64 (k : Nat), v] s fun r s' => Keep [] s s' ∧ r = .tup [.int .u64 (exN x (k : Nat) ts : Nat), .bool (exOk x (k : Nat) ts)] := by
 have hz := hv.leaf
 obtain ⟨vp, vg, va, vc, vf, rfl, hvp, hvg, hva, hvc, csf, hrf, hlf, hF⟩ := id hv
 obtain ⟨hl1, hl2, hl3, hl4, hl5, hsm⟩ := id hx
 have hsf : vf.slen = some x.funcs.length := by rw [hrf.slen, hlf]
 have hkl := (ges.1 hy).1
 have hsv : v.slen = some ts.length := by rw [hvt.slen, lmm]
 refine call_of (fn := Tryz.f38) (nt := 74) Tryz.func38 rfl rfl rfl ?_
 refine aq0 ?_
 have hS := SH.start hok
 refine aq0 ?_
 refine ws_box hS rfl rfl rfl hz ?_
 rintro p0 z hS hk
 have hS : SH _ [_] z _ := hS
 have hK := hS.K
 refine aq5 ?_
 refine w_split (i := 14) rfl (fun h14 => ?_) (fun h14 => ?_)
 ·simp only [dtt] at h14
  exfalso; omega
 simp only [dff] at h14
 refine aq2 ?_
 refine wvz (v := vf) (oL 0 hS) ?_
 refine wvz (oN hsf) ?_
 refine aq2 ?_
 refine wc_condT rfl (fun h20 => ?_) (fun h20 => ?_)
 ·simp only [dtt, ge_iff_le] at h20
  exfalso; omega
 simp only [dff, ge_iff_le] at h20
 refine aq1 ?_
 refine wvz (oN hsv) ?_
 refine aq1 ?_
 refine wc_loop_at (fun jj m z => ∃ i : Nat, jj = ts.length - i ∧ i ≤ ts.length ∧ m = [(1, .int .i64 (k : Nat)), (3, .ptr p0 0 0), (6, .int .u64 (exL x (k : Nat) (ts.take i) : Nat)), (21, v), (22, .int .i64 (ts.length : Nat)), (23, .int .i64 (i : Nat))] ∧ SH s [ptC (.ptr p0 0 0) [vp, vg, va, vc, vf]] z ∧ ∀ (j : Nat) (t : TermL), j < i → ts[j]? = some t → badT x (k : Nat) t = false) ts.length
  [(1, .int .i64 (k : Nat)), (3, .ptr p0 0 0), (6, .int .u64 (exL x (k : Nat) (ts.take 0) : Nat)), (21, v), (22, .int .i64 (ts.length : Nat)), (23, .int .i64 ((0 : Nat) : Int))] (scn rfl (scn rfl (scn rfl (scn rfl (scn rfl (scn rfl (Sub.nil _))))))) ⟨0, by simp, by simp, rfl, hS, fun j t h => by omega⟩ ?_
 clear hS hK
 rintro jj m z ⟨i, rfl, hi, rfl, hS, hB⟩
 have hK := hS.K
 refine aq1 ?_
 refine wcd (fun h24 => ?_) (fun h24 => ?_)
 ·refine aq0 ?_
  obtain ⟨t, ht⟩ : ∃ t, ts[i]? = some t := ⟨_, gee (by omega)⟩
  refine aq0 ?_
  refine wvz (oJ (RowP.up hvt _)) ?_
  refine wvz (v := .agg (tC t)) (oM (Row.mk_pt (RowP.up hvt z.h) ht)) ?_
  refine ws_alloc hS rfl rfl rfl rfl ?_
  rintro p9 z hS hk
  have hS : SH _ [_, _] z _ := hS
  refine ws_store 1 hS rfl rfl rfl rfl rfl rfl (by rfl) (nl rfl) ?_
  rintro z hS
  have hS : SH _ [_, _] z _ := hS
  have hK := hS.K
  refine aq0 ?_
  have hS : SH s [ptC (.ptr p0 0 0) [vp, vg, va, vc, vf], ptC (.ptr p9 0 0) (tC t)] z := hS
  refine aq1 ?_
  refine wvz (oL 1 hS) ?_
  refine aq2 ?_
  refine w_split (i := 30) rfl (fun h30 => ?_) (fun h30 => ?_)
  ·simp only [ne_eq, bne_iff_ne] at h30
   refine aq1 ?_
   refine wvz (oL 1 hS) ?_
   refine aq2 ?_
   refine wc_condT rfl (fun h34 => ?_) (fun h34 => ?_)
   ·simp only [ne_eq, bne_iff_ne] at h34
    refine aq0 ?_
    refine wad ?_
    refine aq1 ?_
    have hS : SH s [ptC (.ptr p0 0 0) [vp, vg, va, vc, vf]] z := hS.sub (.cons_cons _ (.cons _ (.refl _)))
    exact rn ⟨i + 1, rfl, by omega, by rw [show exL x (k : Nat) (ts.take (i + 1)) = exL x (k : Nat) (ts.take i) by rw [exL_snoc ht, tmL_0 h30 h34, Nat.or_zero]], hS, fun j t1 hj h1 => (lsl.1 hj).elim (fun h => hB j t1 h h1) fun e => by rw [e, ht] at h1; cases h1; exact bad_0 h30 h34⟩
   simp only [bne_eq_false_iff_eq] at h34
   refine aq0 ?_
   obtain ⟨⟨a, b⟩, hp⟩ : ∃ p, fN x (k : Nat) t.name = p := ⟨_, rfl⟩
   have hcall : ∀ {s' : St}, s'.Ok → CallS Tryz.prog Tt Kt 15 [.agg [vp, vg, va, vc, vf], .int .i64 (k : Nat), .str t.name] s' fun r z' => Keep [] s' z' ∧ r = .tup [.agg [.int .i64 a, .int .i64 b], .bool (a != 0)] := fun ho => (find_ok ho hx hv).mono fun r z' h => ⟨h.1, by rw [h.2, hp]; rfl⟩
   refine aq0 ?_
   refine wvz (v := .agg [vp, vg, va, vc, vf]) (oL 0 hS) ?_
   refine aq2 ?_
   refine wvz (oL 1 hS) ?_
   refine wkz (hcall hS.ok) ?_
   rintro _ z ⟨hk, rfl⟩
   have hS := hS.mov hk
   refine aq3 ?_
   refine ws_alloc hS rfl rfl rfl rfl ?_
   rintro p10 z hS hk
   have hS : SH _ [_, _, _] z _ := hS
   refine ws_store 2 hS rfl rfl rfl rfl rfl rfl (by rfl) (nl rfl) ?_
   rintro z hS
   have hS : SH _ [_, _, _] z _ := hS
   have hK := hS.K
   refine aq1 ?_
   have hS : SH s [ptC (.ptr p0 0 0) [vp, vg, va, vc, vf], ptC (.ptr p9 0 0) (tC t), ptC (.ptr p10 0 0) [.int .i64 a, .int .i64 b]] z := hS
   refine aq0 ?_
   first
   | (have hk23 : t.kind = 2 ∨ t.kind = 3 := .inr h34)
   | (have hk23 : t.kind = 2 ∨ t.kind = 3 := .inl h30)
   refine aq1 ?_
   refine wvz (oL 1 hS) ?_
   refine aq2 ?_
   refine wvz (oL 2 hS) ?_
   refine aq3 ?_
   refine w_split (i := 50) rfl (fun h50 => ?_) (fun h50 => ?_)
   ·refine aq12 ?_
    refine aq2 ?_
    refine wc_cond_t rfl ?_
    refine aq2 ?_
    have hbt : badT x (k : Nat) t = true := by
     rw [bad_or hp hk23, h50]
     first
     | rfl
     | (rw [h55]; rfl)
     | (rw [h55, h60]; rfl)
     | (rw [h55, h60, h64]; rfl)
    exact ⟨_, rfl, hK, by rw [exN_no (exOk_no ht hbt), exOk_no ht hbt]; rfl⟩
   refine aq1 ?_
   refine wvz (oL 2 hS) ?_
   refine aq3 ?_
   refine w_split (i := 55) rfl (fun h55 => ?_) (fun h55 => ?_)
   ·refine aq9 ?_
    refine wc_cond_t rfl ?_
    refine aq2 ?_
    have hbt : badT x (k : Nat) t = true := by
     rw [bad_or hp hk23, h50]
     first
     | rfl
     | (rw [h55]; rfl)
     | (rw [h55, h60]; rfl)
     | (rw [h55, h60, h64]; rfl)
    exact ⟨_, rfl, hK, by rw [exN_no (exOk_no ht hbt), exOk_no ht hbt]; rfl⟩
   refine aq1 ?_
   refine wvz (oL 2 hS) ?_
   refine aq3 ?_
   refine w_split (i := 60) rfl (fun h60 => ?_) (fun h60 => ?_)
   ·refine aq4 ?_
    refine wc_cond_t rfl ?_
    refine aq2 ?_
    have hbt : badT x (k : Nat) t = true := by
     rw [bad_or hp hk23, h50]
     first
     | rfl
     | (rw [h55]; rfl)
     | (rw [h55, h60]; rfl)
     | (rw [h55, h60, h64]; rfl)
    exact ⟨_, rfl, hK, by rw [exN_no (exOk_no ht hbt), exOk_no ht hbt]; rfl⟩
   refine aq1 ?_
   refine wvz (oL 2 hS) ?_
   refine aq2 ?_
   refine wc_condT rfl (fun h64 => ?_) (fun h64 => ?_)
   ·refine aq2 ?_
    have hbt : badT x (k : Nat) t = true := by
     rw [bad_or hp hk23, h50]
     first
     | rfl
     | (rw [h55]; rfl)
     | (rw [h55, h60]; rfl)
     | (rw [h55, h60, h64]; rfl)
    exact ⟨_, rfl, hK, by rw [exN_no (exOk_no ht hbt), exOk_no ht hbt]; rfl⟩
   refine aq1 ?_
   refine wvz (v := .agg [vp, vg, va, vc, vf]) (oL 0 hS) ?_
   refine aq1 ?_
   refine wvz (v := .agg [.int .i64 a, .int .i64 b]) (oL 2 hS) ?_
   refine wkz (of_ok hS.ok hx hfi hv hy hp) ?_
   rintro _ z ⟨hk, rfl⟩
   have hS := hS.mov hk
   refine w_litT (c := [.int .u64 (exL x (k : Nat) (ts.take i) : Nat), .int .u64 (labN x (k : Nat) (a, b) : Nat)]) [[.int .u64 (exL x (k : Nat) (ts.take i) : Nat)], [.int .u64 (labN x (k : Nat) (a, b) : Nat)]] hS rfl rfl rfl rfl rfl rfl rfl (by decide) (by decide) rfl rfl rfl (by intro c hc; simp only [List.mem_cons, nmn, or_false] at hc; rcases hc with rfl | rfl <;> exact ⟨rfl, rfl⟩) rfl ?_
   rintro lv r z hr hS
   have hS : SH _ [_, _, _] z := hS
   refine w_call rfl rfl (op_call rfl rfl rfl rfl) (join_ok (ls := [(exL x (k : Nat) (ts.take i) : Nat), (labN x (k : Nat) (a, b) : Nat)]) hS.ok (by simp) hr) ?_
   rintro _ z ⟨hk, rfl⟩
   have hS := hS.mov hk
   refine aq1 ?_
   refine wad ?_
   refine aq1 ?_
   have e6 : ((exL x (k : Nat) (ts.take (i + 1)) : Nat) : Int) = joinL [((exL x (k : Nat) (ts.take i) : Nat) : Int), ((labN x (k : Nat) (a, b) : Nat) : Int)] := by rw [exL_snoc ht, tmL_23 hp hk23, join_two (exL_64 hfi _ _) (labN_64 hfi _ _)]
   have hS : SH s [ptC (.ptr p0 0 0) [vp, vg, va, vc, vf]] z := hS.sub (.cons_cons _ (.cons _ (.cons _ (.refl _))))
   exact rn ⟨i + 1, rfl, by omega, by rw [e6], hS, fun j t1 hj h1 => (lsl.1 hj).elim (fun h => hB j t1 h h1) fun e => by rw [e, ht] at h1; cases h1; exact (by rw [bad_or hp hk23, h50, h55, h60, h64]; rfl)⟩
  simp only [bne_eq_false_iff_eq] at h30
  refine aq4 ?_
  refine wc_cond_f rfl ?_
  refine aq0 ?_
  obtain ⟨⟨a, b⟩, hp⟩ : ∃ p, fN x (k : Nat) t.name = p := ⟨_, rfl⟩
  have hcall : ∀ {s' : St}, s'.Ok → CallS Tryz.prog Tt Kt 15 [.agg [vp, vg, va, vc, vf], .int .i64 (k : Nat), .str t.name] s' fun r z' => Keep [] s' z' ∧ r = .tup [.agg [.int .i64 a, .int .i64 b], .bool (a != 0)] := fun ho => (find_ok ho hx hv).mono fun r z' h => ⟨h.1, by rw [h.2, hp]; rfl⟩
  refine aq0 ?_
  refine wvz (v := .agg [vp, vg, va, vc, vf]) (oL 0 hS) ?_
  refine aq2 ?_
  refine wvz (oL 1 hS) ?_
  refine wkz (hcall hS.ok) ?_
  rintro _ z ⟨hk, rfl⟩
  have hS := hS.mov hk
  refine aq3 ?_
  refine ws_alloc hS rfl rfl rfl rfl ?_
  rintro p10 z hS hk
  have hS : SH _ [_, _, _] z _ := hS
  refine ws_store 2 hS rfl rfl rfl rfl rfl rfl (by rfl) (nl rfl) ?_
  rintro z hS
  have hS : SH _ [_, _, _] z _ := hS
  have hK := hS.K
  refine aq1 ?_
  have hS : SH s [ptC (.ptr p0 0 0) [vp, vg, va, vc, vf], ptC (.ptr p9 0 0) (tC t), ptC (.ptr p10 0 0) [.int .i64 a, .int .i64 b]] z := hS
  refine aq0 ?_
  first
  | (have hk23 : t.kind = 2 ∨ t.kind = 3 := .inr h34)
  | (have hk23 : t.kind = 2 ∨ t.kind = 3 := .inl h30)
  refine aq1 ?_
  refine wvz (oL 1 hS) ?_
  refine aq2 ?_
  refine wvz (oL 2 hS) ?_
  refine aq3 ?_
  refine w_split (i := 50) rfl (fun h50 => ?_) (fun h50 => ?_)
  ·refine aq12 ?_
   refine aq2 ?_
   refine wc_cond_t rfl ?_
   refine aq2 ?_
   have hbt : badT x (k : Nat) t = true := by
    rw [bad_or hp hk23, h50]
    first
    | rfl
    | (rw [h55]; rfl)
    | (rw [h55, h60]; rfl)
    | (rw [h55, h60, h64]; rfl)
   exact ⟨_, rfl, hK, by rw [exN_no (exOk_no ht hbt), exOk_no ht hbt]; rfl⟩
  refine aq1 ?_
  refine wvz (oL 2 hS) ?_
  refine aq3 ?_
  refine w_split (i := 55) rfl (fun h55 => ?_) (fun h55 => ?_)
  ·refine aq9 ?_
   refine wc_cond_t rfl ?_
   refine aq2 ?_
   have hbt : badT x (k : Nat) t = true := by
    rw [bad_or hp hk23, h50]
    first
    | rfl
    | (rw [h55]; rfl)
    | (rw [h55, h60]; rfl)
    | (rw [h55, h60, h64]; rfl)
   exact ⟨_, rfl, hK, by rw [exN_no (exOk_no ht hbt), exOk_no ht hbt]; rfl⟩
  refine aq1 ?_
  refine wvz (oL 2 hS) ?_
  refine aq3 ?_
  refine w_split (i := 60) rfl (fun h60 => ?_) (fun h60 => ?_)
  ·refine aq4 ?_
   refine wc_cond_t rfl ?_
   refine aq2 ?_
   have hbt : badT x (k : Nat) t = true := by
    rw [bad_or hp hk23, h50]
    first
    | rfl
    | (rw [h55]; rfl)
    | (rw [h55, h60]; rfl)
    | (rw [h55, h60, h64]; rfl)
   exact ⟨_, rfl, hK, by rw [exN_no (exOk_no ht hbt), exOk_no ht hbt]; rfl⟩
  refine aq1 ?_
  refine wvz (oL 2 hS) ?_
  refine aq2 ?_
  refine wc_condT rfl (fun h64 => ?_) (fun h64 => ?_)
  ·refine aq2 ?_
   have hbt : badT x (k : Nat) t = true := by
    rw [bad_or hp hk23, h50]
    first
    | rfl
    | (rw [h55]; rfl)
    | (rw [h55, h60]; rfl)
    | (rw [h55, h60, h64]; rfl)
   exact ⟨_, rfl, hK, by rw [exN_no (exOk_no ht hbt), exOk_no ht hbt]; rfl⟩
  refine aq1 ?_
  refine wvz (v := .agg [vp, vg, va, vc, vf]) (oL 0 hS) ?_
  refine aq1 ?_
  refine wvz (v := .agg [.int .i64 a, .int .i64 b]) (oL 2 hS) ?_
  refine wkz (of_ok hS.ok hx hfi hv hy hp) ?_
  rintro _ z ⟨hk, rfl⟩
  have hS := hS.mov hk
  refine w_litT (c := [.int .u64 (exL x (k : Nat) (ts.take i) : Nat), .int .u64 (labN x (k : Nat) (a, b) : Nat)]) [[.int .u64 (exL x (k : Nat) (ts.take i) : Nat)], [.int .u64 (labN x (k : Nat) (a, b) : Nat)]] hS rfl rfl rfl rfl rfl rfl rfl (by decide) (by decide) rfl rfl rfl (by intro c hc; simp only [List.mem_cons, nmn, or_false] at hc; rcases hc with rfl | rfl <;> exact ⟨rfl, rfl⟩) rfl ?_
  rintro lv r z hr hS
  have hS : SH _ [_, _, _] z := hS
  refine w_call rfl rfl (op_call rfl rfl rfl rfl) (join_ok (ls := [(exL x (k : Nat) (ts.take i) : Nat), (labN x (k : Nat) (a, b) : Nat)]) hS.ok (by simp) hr) ?_
  rintro _ z ⟨hk, rfl⟩
  have hS := hS.mov hk
  refine aq1 ?_
  refine wad ?_
  refine aq1 ?_
  have e6 : ((exL x (k : Nat) (ts.take (i + 1)) : Nat) : Int) = joinL [((exL x (k : Nat) (ts.take i) : Nat) : Int), ((labN x (k : Nat) (a, b) : Nat) : Int)] := by rw [exL_snoc ht, tmL_23 hp hk23, join_two (exL_64 hfi _ _) (labN_64 hfi _ _)]
  have hS : SH s [ptC (.ptr p0 0 0) [vp, vg, va, vc, vf]] z := hS.sub (.cons_cons _ (.cons _ (.cons _ (.refl _))))
  exact rn ⟨i + 1, rfl, by omega, by rw [e6], hS, fun j t1 hj h1 => (lsl.1 hj).elim (fun h => hB j t1 h h1) fun e => by rw [e, ht] at h1; cases h1; exact (by rw [bad_or hp hk23, h50, h55, h60, h64]; rfl)⟩
 obtain rfl : i = ts.length := by omega
 refine aq3 ?_
 exact ⟨_, rfl, hK, by rw [exN_ok (exOk_fin hkl hB), exOk_fin hkl hB, List.take_length]; rfl⟩
end Go.Ab
namespace Go.Ab
open Go.Proofs
end Go.Ab
namespace Go.Ab
open Go.Proofs
section
variable {P : Program} {T : Tab} {K : Kn} {nt : NT} {ops : Array Oper} {rest : List Oper} {m : Sy} {z s0 s : St} {Q : Sy → St → Prop} {d ty : Nat} {pos : String} {af : Array Edge} {g : Option (Nat × Bool)} {X : List Nat} {L : List Chunk}
theorem ws_litC {tt e : TypeId} {n : Nat} {parts : Array (Nat × Operand)} {i ie : TI} {ps : List (Nat × AV)} {c : List AV} (cs : List (List AV)) (hS : SH s0 L z X) (hg : guardY ops m g = some true) (hd : Nat.ble (d + 1) nt.n = true) (hT : T tt = some i) (hs : i.sh = .slice e) (he : T e = some ie) (hp : evPartsY m parts.toList = some ps) (hz : ie.zero.length = ie.size) (h0 : ie.size ≠ 0) (h24 : n * ie.size ≤ 2 ^ 24)
  (hf : fillA (fun n => some (n * ie.size, ie.size)) (List.replicate n ie.zero).flatten ps = some c) (hl : c.all AV.leaf = true) (hc : c = cs.flatten) (hcs : ∀ x ∈ cs, x.length = ie.size ∧ x.all AV.leaf = true) (hn : n = cs.length)
  (k : ∀ lv z', SH s0 (L ++ [rowC lv ie.size cs]) z' X → W P T K nt ops rest ((d, lv) :: m) z' Q) : W P T K nt ops (⟨some d, .buildSlice tt n parts, ty, pos, af, g⟩ :: rest) m z Q := by
 refine w_lit cs hg hd hT hs he hp hz h0 h24 hf hl hc hcs hn hS.ok ?_
 rintro lv z1 hlv hk hc1 hlg
 exact k lv z1 (hS.add hk _ ⟨hlv, fun h => by rw [hlg] at h; cases h⟩ (row_newb hk hlv hlg hc1))
theorem SH.cutR {v : AV} {sz : Nat} {cs : List (List AV)} (h : SH s0 L s X) (n : Nat) (hn : L[n]? = some (rowC v sz cs)) {k : Nat} (hk : k ≤ cs.length) : SH s0 (L.set n (rowC (cutA v 0 k) sz (cs.take k))) s X :=
 h.upd n hn (Keep.refl h.ok) (fun g hg => by cases hg) (rowC (cutA v 0 k) sz (cs.take k)) ⟨by have := (h.row n hn).cut (Nat.zero_le k) hk; simpa using this, fun e => by rw [cutA_gs] at e; rw [(h.nls n hn) e]; rfl⟩ fun g hg => .inl (by have hg : g ∈ (cutA v 0 k).gs := hg; rwa [cutA_gs] at hg)
end
theorem iter_opn_le {ks : List Int} : ∀ {i : Nat} {a : E1}, iter1 ks i = some a → a.opn.length ≤ i
 | 0, a, h => by cases h; simp
 | i + 1, b, h => by
  have h' := h
  rw [iter1] at h'
  cases ha : iter1 ks i with
  | none => rw [ha] at h'; cases h'
  | some a =>
   have hl := iter_opn_le ha
   by_cases h57 : ks.getD i 0 = 5 ∨ ks.getD i 0 = 7
   ·rw [opn_57 ha h h57, laa]; simp; omega
   ·by_cases h8 : ks.getD i 0 = 8
    ·rw [(opn_8 ha h h8).2, List.length_dropLast]; omega
    ·rw [opn_same ha h (by omega) (by omega) h8]; omega
theorem kinds_at {y : FunL} {i : Nat} {st : StmtL} (h : y.body[i]? = some st) : (kinds y).getD i 0 = st.kind := by
 rw [kinds, gdd, gmm, h]; rfl
theorem uC_map (l : List Nat) (n : Nat) : l.map uC ++ [[.int .u64 (n : Nat)]] = (l ++ [n]).map uC := by rw [List.map_append]; rfl
theorem lev_map (f : Nat → Nat) (i : Nat) : (List.range i).map f ++ [f i] = (List.range (i + 1)).map f := by rw [List.range_succ, List.map_append]; rfl
theorem levY_no {s : SrcL} {f : Int} {y : FunL} (h : (ends1 (kinds y)).isSome = false) : levY s f y = [] := by rw [levY, h]; rfl
theorem levY_yes {s : SrcL} {f : Int} {y : FunL} (h : (ends1 (kinds y)).isSome = true) : levY s f y = (List.range y.body.length).map (levI s f y) := if_pos h
set_option maxRecDepth 10000 in
set_option maxHeartbeats 8000000 in
theorem levels_ok {s : St} {c : List AV} {x : SrcL} {k : Nat} {y : FunL} (hok : s.Ok) (hx : x.small) (hfi : x.fine) (hv : SrcP x c) (hy : x.funcs[k]? = some y) :
  CallS Tryz.prog Tt Kt 13 [.agg c, .int .i64 (k : Nat)] s fun r s' => Keep [] s s' ∧ RowP 1 r ((levsN x (k : Nat)).map uC) := by
 have hz := hv.leaf
 obtain ⟨vp, vg, va, vc, vf, rfl, hvp, hvg, hva, hvc, csf, hrf, hlf, hF⟩ := id hv
 obtain ⟨hl1, hl2, hl3, hl4, hl5, hsm⟩ := id hx
 have hsf : vf.slen = some x.funcs.length := by rw [hrf.slen, hlf]
 have hkl := (ges.1 hy).1
 obtain ⟨cy, hcy⟩ : ∃ c, csf[k]? = some c := ⟨_, gee (by omega)⟩
 obtain ⟨yp, yr, yv, yb, rfl, hyp, hyr, hyv, hyb⟩ := hF k y cy hy hcy
 obtain ⟨hy1, hy2, hy3, hy4, hy5⟩ := id (hsm y (mog hy))
 have hyf := hfi.2.2.2.2 y (mog hy)
 have hsp : yp.slen = some y.params.length := by rw [hyp.slen, lmm]
 obtain ⟨csb, hbr, hbl, hbE⟩ := id hyb
 have hsb : yb.slen = some y.body.length := by rw [hbr.slen, hbl]
 have hkr : KindsR .leaf yb (kinds y) := KindsR.of hyb
 have hyz : ([.str y.name, .int .u64 y.level, yp, yr, yv, yb] : List AV).all AV.leaf = true := by
  simp only [List.all_cons, List.all_nil, hyp.leaf, hyr.leaf, hyv.leaf, hbr.leaf]; rfl
 have hyL := hyf.2.1
 have hkl2 : (kinds y).length = y.body.length := by rw [kinds, lmm]
 refine CallS.row hok ?_
 refine call_of (fn := Tryz.f13) (nt := 129) Tryz.func13 rfl rfl rfl ?_
 refine aq0 ?_
 have hS := SH.start hok
 refine aq0 ?_
 refine ws_box hS rfl rfl rfl hz ?_
 rintro p0 z hS hk
 have hS : SH _ [_] z _ := hS
 refine aq4 ?_
 refine w_split (i := 21) rfl (fun h21 => ?_) (fun h21 => ?_)
 ·simp only [dtt] at h21
  exfalso; omega
 simp only [dff] at h21
 refine aq2 ?_
 refine wvz (v := vf) (oL 0 hS) ?_
 refine wvz (oN hsf) ?_
 refine aq2 ?_
 refine wc_condT rfl (fun h27 => ?_) (fun h27 => ?_)
 ·simp only [dtt, ge_iff_le] at h27
  exfalso; omega
 simp only [dff, ge_iff_le] at h27
 refine aq1 ?_
 refine wvz (v := vf) (oL 0 hS) ?_
 refine aq1 ?_
 refine wvz (oI (RowP.up hrf _)) ?_
 refine wvz (v := .agg [.str y.name, .int .u64 y.level, yp, yr, yv, yb]) (oM (Row.pt (RowP.up hrf _) hcy)) ?_
 refine ws_alloc hS rfl rfl rfl rfl ?_
 rintro p5 z hS hk
 have hS : SH _ [_, _] z _ := hS
 have hK := hS.K
 refine ws_store 1 hS rfl rfl rfl rfl rfl rfl (by assumption) (nl rfl) ?_
 rintro z hS
 have hS : SH _ [_, _] z _ := hS
 refine aq0 ?_
 have hS : SH s [ptC (.ptr p0 0 0) [vp, vg, va, vc, vf], ptC (.ptr p5 0 0) [.str y.name, .int .u64 y.level, yp, yr, yv, yb]] z := hS
 refine aq1 ?_
 refine wvz (v := yb) (oL 1 hS) ?_
 refine w_call rfl rfl (op_call rfl rfl rfl rfl) (ends_ok hS.ok (by rw [kinds, lmm]; exact hy4) (hkr.up _)) ?_
 rintro r z ⟨hk, he⟩
 have hS := hS.mov hk
 have hK := hS.K
 obtain ⟨ea, eb, rfl, -⟩ := he.shape
 refine aq9 ?_
 refine wc_condT rfl (fun h41 => ?_) (fun h41 => ?_)
 ·simp only [Bool.not_eq_true'] at h41
  refine aq1 ?_
  exact ⟨_, rfl, hK, by rw [levsN_in hy, levY_no h41]; rfl, fun g hg => by cases hg⟩
 simp only [Bool.not_eq_false'] at h41
 refine aq1 ?_
 refine wvz (v := .int .u64 y.level) (oL 1 hS) ?_
 refine ws_litC (c := [.int .u64 y.level]) [[.int .u64 y.level]] hS rfl rfl rfl rfl rfl rfl rfl (by decide) (by decide) rfl rfl rfl (by intro c hc; rw [msi.1 hc]; exact ⟨rfl, rfl⟩) rfl ?_
 rintro l44 z hS
 refine aq2 ?_
 have hS : SH s [ptC (.ptr p0 0 0) [vp, vg, va, vc, vf], ptC (.ptr p5 0 0) [.str y.name, .int .u64 y.level, yp, yr, yv, yb], rowC l44 1 [[.int .u64 y.level]]] z := hS
 have hS := hS.nil 1
 have e0 : ((stkN y.level.toNat (blkW x (k : Nat) y) []).map uC) = [[.int .u64 y.level]] := by
  show [[AV.int .u64 ((y.level.toNat : Nat) : Int)]] = _
  rw [u64_cast hyL]
 have hS : SH s [ptC (.ptr p0 0 0) [vp, vg, va, vc, vf], ptC (.ptr p5 0 0) [.str y.name, .int .u64 y.level, yp, yr, yv, yb], rowC l44 1 ((stkN y.level.toNat (blkW x (k : Nat) y) []).map uC), rowC .nils 1 (((List.range 0).map (levI x (k : Nat) y)).map uC)] z := by rw [e0]; exact hS
 have hK := hS.K
 refine aq1 ?_
 refine wvz (v := yb) (oL 1 hS) ?_
 refine wvz (oN hsb) ?_
 refine aq1 ?_
 refine wc_loop_at (fun jj m z => ∃ (i : Nat) (a : E1) (v9 v10 : AV), jj = y.body.length - i ∧ i ≤ y.body.length ∧ iter1 (kinds y) i = some a ∧ m = [(1, .int .i64 (k : Nat)), (2, .ptr p0 0 0), (9, v9), (10, v10), (46, yb), (47, .int .i64 (y.body.length : Nat)), (48, .int .i64 (i : Nat))] ∧ SH s [ptC (.ptr p0 0 0) [vp, vg, va, vc, vf], ptC (.ptr p5 0 0) [.str y.name, .int .u64 y.level, yp, yr, yv, yb], rowC v9 1 ((stkN y.level.toNat (blkW x (k : Nat) y) a.opn).map uC), rowC v10 1 (((List.range i).map (levI x (k : Nat) y)).map uC)] z) y.body.length
  [(1, .int .i64 (k : Nat)), (2, .ptr p0 0 0), (9, l44), (10, .nils), (46, yb), (47, .int .i64 (y.body.length : Nat)), (48, .int .i64 ((0 : Nat) : Int))] (scn rfl (scn rfl (scn rfl (scn rfl (scn rfl (scn rfl (scn rfl (Sub.nil _)))))))) ⟨0, _, l44, .nils, by simp, by simp, rfl, rfl, hS⟩ ?_
 clear hS hK
 rintro jj m z ⟨i, a, v9, v10, rfl, hi, ha, rfl, hS⟩
 have hK := hS.K
 have hal := iter_opn_le ha
 refine aq1 ?_
 refine wcd (fun h49 => ?_) (fun h49 => ?_)
 ·refine aq0 ?_
  obtain ⟨st, hst⟩ : ∃ st, y.body[i]? = some st := ⟨_, gee (by omega)⟩
  obtain ⟨cst, hcst⟩ : ∃ c, csb[i]? = some c := ⟨_, gee (by omega)⟩
  obtain ⟨vt, ve, rfl, hvt, hve⟩ := hbE i st cst hst hcst
  obtain ⟨cse, hre, hle, hTE⟩ := id hve
  have hse : ve.slen = some st.exprs.length := by rw [hre.slen, hle]
  have hki := kinds_at hst
  obtain ⟨b, hb⟩ := iter_some h41 (i := i + 1) (by omega)
  have hss := hy5 st (mog hst)
  have hss2 := hss.2.1
  have hskl := stkN_len y.level.toNat (blkW x (k : Nat) y) a.opn
  have hsz : ([.int .i64 st.kind, .str st.name, vt, ve] : List AV).all AV.leaf = true := by
   simp only [List.all_cons, List.all_nil, hvt.leaf, hre.leaf]; rfl
  refine aq0 ?_
  refine wvz (oI (RowP.up hbr _)) ?_
  refine wvz (v := .agg [.int .i64 st.kind, .str st.name, vt, ve]) (oM (Row.pt (RowP.up hbr _) hcst)) ?_
  refine ws_alloc hS rfl rfl rfl rfl ?_
  rintro p12 z hS hk
  have hS : SH _ [_, _, _, _, _] z _ := hS
  refine ws_store 4 hS rfl rfl rfl rfl rfl rfl hsz (nl rfl) ?_
  rintro z hS
  have hS : SH _ [_, _, _, _, _] z _ := hS
  refine aq0 ?_
  have hS : SH s [ptC (.ptr p0 0 0) [vp, vg, va, vc, vf], ptC (.ptr p5 0 0) [.str y.name, .int .u64 y.level, yp, yr, yv, yb], rowC v9 1 ((stkN y.level.toNat (blkW x (k : Nat) y) a.opn).map uC), rowC v10 1 (((List.range i).map (levI x (k : Nat) y)).map uC), ptC (.ptr p12 0 0) [.int .i64 st.kind, .str st.name, vt, ve]] z := hS
  have hK := hS.K
  refine aq1 ?_
  refine wvz (v := .int .i64 ((a.opn.length + 1 : Nat) : Int)) (op_len rfl rfl rfl rfl rfl ((hS.row 2 rfl).slen.trans (by rw [lmm, stkN_len]))) ?_
  refine aq2 ?_
  refine wvz (v := .int .i64 st.kind) (oL 4 hS) ?_
  refine aq2 ?_
  refine wcb (fun h64 => ?_) (fun h64 => ?_)
  ·refine aq0 ?_
   refine wc_cond_t rfl ?_
   refine aq3 ?_
   refine wvz (v := .int .i64 ((a.opn.length : Nat) : Int)) (op_subE rfl rfl (by unfold In64; omega) (by omega)) ?_
   refine wvz (op_idxF rfl rfl (natA_cast _ _) rfl rfl rfl rfl (hS.row 2 rfl) (by rw [stkN_len]; omega)) ?_
   refine wvz (v := .int .u64 ((exOr y.level.toNat (blkW x (k : Nat) y) a.opn : Nat) : Int)) (oM (Row.mk_pt (hS.row 2 rfl) (stkN_top _ _ _))) ?_
   refine ws_lit1 hS rfl rfl rfl rfl rfl rfl rfl rfl (by decide) (by decide) rfl (by rfl) rfl ?_
   rintro lt73 z hS hk hlt73
   refine ws_append 3 hS rfl rfl rfl rfl rfl rfl rfl rfl rfl rfl rfl (by decide) (hlt73) (by (simp [maxBytes]; omega)) (by (simp [maxBytes]; omega)) ?_
   rintro at74 z hS
   have hS : SH _ [_, _, _, _, _] z _ := hS
   refine aq1 ?_
   have hS : SH s [ptC (.ptr p0 0 0) [vp, vg, va, vc, vf], ptC (.ptr p5 0 0) [.str y.name, .int .u64 y.level, yp, yr, yv, yb], rowC v9 1 ((stkN y.level.toNat (blkW x (k : Nat) y) a.opn).map uC), rowC at74 1 (((List.range (i + 1)).map (levI x (k : Nat) y)).map uC), ptC (.ptr p12 0 0) [.int .i64 st.kind, .str st.name, vt, ve]] z := by
    rw [← lev_map, ← uC_map, levI_else ha (by omega) (by omega)]; exact hS
   have hK := hS.K
   refine aq2 ?_
   refine wvz (v := .int .i64 ((a.opn.length : Nat) : Int)) (op_subE rfl rfl (by unfold In64; omega) (by omega)) ?_
   refine wvz (op_idxF rfl rfl (natA_cast _ _) rfl rfl rfl rfl (hS.row 2 rfl) (by rw [stkN_len]; omega)) ?_
   refine wvz (v := .int .u64 ((exOr y.level.toNat (blkW x (k : Nat) y) a.opn : Nat) : Int)) (oM (Row.mk_pt (hS.row 2 rfl) (stkN_top _ _ _))) ?_
   refine aq2 ?_
   refine wvz (v := ve) (oL 4 hS) ?_
   refine wvz (oN hse) ?_
   refine aq1 ?_
   refine wc_loop_at (fun jj m z => ∃ j : Nat, jj = st.exprs.length - j ∧ j ≤ st.exprs.length ∧ m = [(1, .int .i64 (k : Nat)), (2, .ptr p0 0 0), (9, v9), (10, at74), (46, yb), (47, .int .i64 (y.body.length : Nat)), (48, .int .i64 (i : Nat)), (14, .int .u64 (cndL x (k : Nat) (st.exprs.take j) (exOr y.level.toNat (blkW x (k : Nat) y) a.opn) : Nat)), (81, ve), (82, .int .i64 (st.exprs.length : Nat)), (83, .int .i64 (j : Nat))] ∧ SH s [ptC (.ptr p0 0 0) [vp, vg, va, vc, vf], ptC (.ptr p5 0 0) [.str y.name, .int .u64 y.level, yp, yr, yv, yb], rowC v9 1 ((stkN y.level.toNat (blkW x (k : Nat) y) a.opn).map uC), rowC at74 1 (((List.range (i + 1)).map (levI x (k : Nat) y)).map uC), ptC (.ptr p12 0 0) [.int .i64 st.kind, .str st.name, vt, ve]] z) st.exprs.length
    [(1, .int .i64 (k : Nat)), (2, .ptr p0 0 0), (9, v9), (10, at74), (46, yb), (47, .int .i64 (y.body.length : Nat)), (48, .int .i64 (i : Nat)), (14, .int .u64 (cndL x (k : Nat) (st.exprs.take 0) (exOr y.level.toNat (blkW x (k : Nat) y) a.opn) : Nat)), (81, ve), (82, .int .i64 (st.exprs.length : Nat)), (83, .int .i64 ((0 : Nat) : Int))] (scn rfl (scn rfl (scn rfl (scn rfl (scn rfl (scn rfl (scn rfl (scn rfl (scn rfl (scn rfl (scn rfl (Sub.nil _)))))))))))) ⟨0, by simp, by simp, rfl, hS⟩ ?_
   clear hS hK
   rintro jj m z ⟨j, rfl, hj, rfl, hS⟩
   refine aq1 ?_
   refine wcd (fun h84 => ?_) (fun h84 => ?_)
   ·refine aq0 ?_
    obtain ⟨ts, hts⟩ : ∃ d, st.exprs[j]? = some d := ⟨_, gee (by omega)⟩
    obtain ⟨ct, hct⟩ : ∃ c, cse[j]? = some c := ⟨_, gee (by omega)⟩
    obtain ⟨tv, rfl, htv⟩ := hTE j ts ct hts hct
    refine aq0 ?_
    refine wvz (oI (RowP.up hre _)) ?_
    refine wvz (v := tv) (oM (Row.pt (RowP.up hre _) hct)) ?_
    refine aq1 ?_
    refine wvz (v := .agg [vp, vg, va, vc, vf]) (oL 0 hS) ?_
    refine aq2 ?_
    refine wkz (expr_ok hS.ok hx hfi hv hy (hss.2.2 ts (mog hts)) htv) ?_
    rintro _ z ⟨hk, rfl⟩
    have hS := hS.mov hk
    refine aq7 ?_
    refine w_litT (c := [.int .u64 (cndL x (k : Nat) (st.exprs.take j) (exOr y.level.toNat (blkW x (k : Nat) y) a.opn) : Nat), .int .u64 (exN x (k : Nat) ts : Nat)]) [[.int .u64 (cndL x (k : Nat) (st.exprs.take j) (exOr y.level.toNat (blkW x (k : Nat) y) a.opn) : Nat)], [.int .u64 (exN x (k : Nat) ts : Nat)]] hS rfl rfl rfl rfl rfl rfl rfl (by decide) (by decide) rfl rfl rfl (by intro c hc; simp only [List.mem_cons, nmn, or_false] at hc; rcases hc with rfl | rfl <;> exact ⟨rfl, rfl⟩) rfl ?_
    rintro lv r z hr hS
    have hS : SH _ [_, _, _, _, _] z := hS
    refine w_call rfl rfl (op_call rfl rfl rfl rfl) (join_ok (ls := [(cndL x (k : Nat) (st.exprs.take j) (exOr y.level.toNat (blkW x (k : Nat) y) a.opn) : Nat), (exN x (k : Nat) ts : Nat)]) hS.ok (by simp) hr) ?_
    rintro _ z ⟨hk, rfl⟩
    have hS := hS.mov hk
    refine aq1 ?_
    refine wad ?_
    refine aq1 ?_
    have e6 : ((cndL x (k : Nat) (st.exprs.take (j + 1)) (exOr y.level.toNat (blkW x (k : Nat) y) a.opn) : Nat) : Int) = joinL [((cndL x (k : Nat) (st.exprs.take j) (exOr y.level.toNat (blkW x (k : Nat) y) a.opn) : Nat) : Int), ((exN x (k : Nat) ts : Nat) : Int)] := by
     rw [cndL_snoc hts, join_two (cndL_64 hfi _ _ (exOr_64 (lv := 0) (blkW_64 hfi _ _) _ (by have := hyL.1; have := hyL.2; omega))) (exN_64 hfi _ _)]
    exact rn ⟨j + 1, rfl, by omega, by rw [e6], hS⟩
   obtain rfl : j = st.exprs.length := by omega
   refine aq2 ?_
   refine ws_lit1 hS rfl rfl rfl rfl rfl rfl rfl rfl (by decide) (by decide) rfl (by rfl) rfl ?_
   rintro lt101 z hS hk hlt101
   refine ws_append 2 hS rfl rfl rfl rfl rfl rfl rfl rfl rfl rfl rfl (by decide) (hlt101) (by (simp only [lmm, lnn, lcc, maxBytes]; omega)) (by (simp only [lmm, lnn, lcc, maxBytes]; omega)) ?_
   rintro at102 z hS
   have hS : SH _ [_, _, _, _, _] z _ := hS
   refine aq1 ?_
   have hS : SH s [ptC (.ptr p0 0 0) [vp, vg, va, vc, vf], ptC (.ptr p5 0 0) [.str y.name, .int .u64 y.level, yp, yr, yv, yb], rowC at102 1 ((stkN y.level.toNat (blkW x (k : Nat) y) b.opn).map uC), rowC at74 1 (((List.range (i + 1)).map (levI x (k : Nat) y)).map uC), ptC (.ptr p12 0 0) [.int .i64 st.kind, .str st.name, vt, ve]] z := by
    rw [opn_57 ha hb (by omega), stkN_snoc, blkW_at hst, ← cndL_from, ← uC_map]; rw [List.take_length] at hS; exact hS
   refine aq0 ?_
   refine wad ?_
   refine aq1 ?_
   have hS := hS.sub (L' := [_, _, _, _]) (.cons_cons _ (.cons_cons _ (.cons_cons _ (.cons_cons _ (.cons _ (.refl _))))))
   exact rn ⟨i + 1, b, _, _, rfl, by omega, hb, rfl, hS⟩
  refine aq2 ?_
  refine wcb (fun h64 => ?_) (fun h64 => ?_)
  ·refine aq3 ?_
   refine wvz (v := .int .i64 ((a.opn.length : Nat) : Int)) (op_subE rfl rfl (by unfold In64; omega) (by omega)) ?_
   refine wvz (op_idxF rfl rfl (natA_cast _ _) rfl rfl rfl rfl (hS.row 2 rfl) (by rw [stkN_len]; omega)) ?_
   refine wvz (v := .int .u64 ((exOr y.level.toNat (blkW x (k : Nat) y) a.opn : Nat) : Int)) (oM (Row.mk_pt (hS.row 2 rfl) (stkN_top _ _ _))) ?_
   refine ws_lit1 hS rfl rfl rfl rfl rfl rfl rfl rfl (by decide) (by decide) rfl (by rfl) rfl ?_
   rintro lt73 z hS hk hlt73
   refine ws_append 3 hS rfl rfl rfl rfl rfl rfl rfl rfl rfl rfl rfl (by decide) (hlt73) (by (simp [maxBytes]; omega)) (by (simp [maxBytes]; omega)) ?_
   rintro at74 z hS
   have hS : SH _ [_, _, _, _, _] z _ := hS
   refine aq1 ?_
   have hS : SH s [ptC (.ptr p0 0 0) [vp, vg, va, vc, vf], ptC (.ptr p5 0 0) [.str y.name, .int .u64 y.level, yp, yr, yv, yb], rowC v9 1 ((stkN y.level.toNat (blkW x (k : Nat) y) a.opn).map uC), rowC at74 1 (((List.range (i + 1)).map (levI x (k : Nat) y)).map uC), ptC (.ptr p12 0 0) [.int .i64 st.kind, .str st.name, vt, ve]] z := by
    rw [← lev_map, ← uC_map, levI_else ha (by omega) (by omega)]; exact hS
   have hK := hS.K
   refine aq2 ?_
   refine wvz (v := .int .i64 ((a.opn.length : Nat) : Int)) (op_subE rfl rfl (by unfold In64; omega) (by omega)) ?_
   refine wvz (op_idxF rfl rfl (natA_cast _ _) rfl rfl rfl rfl (hS.row 2 rfl) (by rw [stkN_len]; omega)) ?_
   refine wvz (v := .int .u64 ((exOr y.level.toNat (blkW x (k : Nat) y) a.opn : Nat) : Int)) (oM (Row.mk_pt (hS.row 2 rfl) (stkN_top _ _ _))) ?_
   refine aq2 ?_
   refine wvz (v := ve) (oL 4 hS) ?_
   refine wvz (oN hse) ?_
   refine aq1 ?_
   refine wc_loop_at (fun jj m z => ∃ j : Nat, jj = st.exprs.length - j ∧ j ≤ st.exprs.length ∧ m = [(1, .int .i64 (k : Nat)), (2, .ptr p0 0 0), (9, v9), (10, at74), (46, yb), (47, .int .i64 (y.body.length : Nat)), (48, .int .i64 (i : Nat)), (14, .int .u64 (cndL x (k : Nat) (st.exprs.take j) (exOr y.level.toNat (blkW x (k : Nat) y) a.opn) : Nat)), (81, ve), (82, .int .i64 (st.exprs.length : Nat)), (83, .int .i64 (j : Nat))] ∧ SH s [ptC (.ptr p0 0 0) [vp, vg, va, vc, vf], ptC (.ptr p5 0 0) [.str y.name, .int .u64 y.level, yp, yr, yv, yb], rowC v9 1 ((stkN y.level.toNat (blkW x (k : Nat) y) a.opn).map uC), rowC at74 1 (((List.range (i + 1)).map (levI x (k : Nat) y)).map uC), ptC (.ptr p12 0 0) [.int .i64 st.kind, .str st.name, vt, ve]] z) st.exprs.length
    [(1, .int .i64 (k : Nat)), (2, .ptr p0 0 0), (9, v9), (10, at74), (46, yb), (47, .int .i64 (y.body.length : Nat)), (48, .int .i64 (i : Nat)), (14, .int .u64 (cndL x (k : Nat) (st.exprs.take 0) (exOr y.level.toNat (blkW x (k : Nat) y) a.opn) : Nat)), (81, ve), (82, .int .i64 (st.exprs.length : Nat)), (83, .int .i64 ((0 : Nat) : Int))] (scn rfl (scn rfl (scn rfl (scn rfl (scn rfl (scn rfl (scn rfl (scn rfl (scn rfl (scn rfl (scn rfl (Sub.nil _)))))))))))) ⟨0, by simp, by simp, rfl, hS⟩ ?_
   clear hS hK
   rintro jj m z ⟨j, rfl, hj, rfl, hS⟩
   refine aq1 ?_
   refine wcd (fun h84 => ?_) (fun h84 => ?_)
   ·refine aq0 ?_
    obtain ⟨ts, hts⟩ : ∃ d, st.exprs[j]? = some d := ⟨_, gee (by omega)⟩
    obtain ⟨ct, hct⟩ : ∃ c, cse[j]? = some c := ⟨_, gee (by omega)⟩
    obtain ⟨tv, rfl, htv⟩ := hTE j ts ct hts hct
    refine aq0 ?_
    refine wvz (oI (RowP.up hre _)) ?_
    refine wvz (v := tv) (oM (Row.pt (RowP.up hre _) hct)) ?_
    refine aq1 ?_
    refine wvz (v := .agg [vp, vg, va, vc, vf]) (oL 0 hS) ?_
    refine aq2 ?_
    refine wkz (expr_ok hS.ok hx hfi hv hy (hss.2.2 ts (mog hts)) htv) ?_
    rintro _ z ⟨hk, rfl⟩
    have hS := hS.mov hk
    refine aq7 ?_
    refine w_litT (c := [.int .u64 (cndL x (k : Nat) (st.exprs.take j) (exOr y.level.toNat (blkW x (k : Nat) y) a.opn) : Nat), .int .u64 (exN x (k : Nat) ts : Nat)]) [[.int .u64 (cndL x (k : Nat) (st.exprs.take j) (exOr y.level.toNat (blkW x (k : Nat) y) a.opn) : Nat)], [.int .u64 (exN x (k : Nat) ts : Nat)]] hS rfl rfl rfl rfl rfl rfl rfl (by decide) (by decide) rfl rfl rfl (by intro c hc; simp only [List.mem_cons, nmn, or_false] at hc; rcases hc with rfl | rfl <;> exact ⟨rfl, rfl⟩) rfl ?_
    rintro lv r z hr hS
    have hS : SH _ [_, _, _, _, _] z := hS
    refine w_call rfl rfl (op_call rfl rfl rfl rfl) (join_ok (ls := [(cndL x (k : Nat) (st.exprs.take j) (exOr y.level.toNat (blkW x (k : Nat) y) a.opn) : Nat), (exN x (k : Nat) ts : Nat)]) hS.ok (by simp) hr) ?_
    rintro _ z ⟨hk, rfl⟩
    have hS := hS.mov hk
    refine aq1 ?_
    refine wad ?_
    refine aq1 ?_
    have e6 : ((cndL x (k : Nat) (st.exprs.take (j + 1)) (exOr y.level.toNat (blkW x (k : Nat) y) a.opn) : Nat) : Int) = joinL [((cndL x (k : Nat) (st.exprs.take j) (exOr y.level.toNat (blkW x (k : Nat) y) a.opn) : Nat) : Int), ((exN x (k : Nat) ts : Nat) : Int)] := by
     rw [cndL_snoc hts, join_two (cndL_64 hfi _ _ (exOr_64 (lv := 0) (blkW_64 hfi _ _) _ (by have := hyL.1; have := hyL.2; omega))) (exN_64 hfi _ _)]
    exact rn ⟨j + 1, rfl, by omega, by rw [e6], hS⟩
   obtain rfl : j = st.exprs.length := by omega
   refine aq2 ?_
   refine ws_lit1 hS rfl rfl rfl rfl rfl rfl rfl rfl (by decide) (by decide) rfl (by rfl) rfl ?_
   rintro lt101 z hS hk hlt101
   refine ws_append 2 hS rfl rfl rfl rfl rfl rfl rfl rfl rfl rfl rfl (by decide) (hlt101) (by (simp only [lmm, lnn, lcc, maxBytes]; omega)) (by (simp only [lmm, lnn, lcc, maxBytes]; omega)) ?_
   rintro at102 z hS
   have hS : SH _ [_, _, _, _, _] z _ := hS
   refine aq1 ?_
   have hS : SH s [ptC (.ptr p0 0 0) [vp, vg, va, vc, vf], ptC (.ptr p5 0 0) [.str y.name, .int .u64 y.level, yp, yr, yv, yb], rowC at102 1 ((stkN y.level.toNat (blkW x (k : Nat) y) b.opn).map uC), rowC at74 1 (((List.range (i + 1)).map (levI x (k : Nat) y)).map uC), ptC (.ptr p12 0 0) [.int .i64 st.kind, .str st.name, vt, ve]] z := by
    rw [opn_57 ha hb (by omega), stkN_snoc, blkW_at hst, ← cndL_from, ← uC_map]; rw [List.take_length] at hS; exact hS
   refine aq0 ?_
   refine wad ?_
   refine aq1 ?_
   have hS := hS.sub (L' := [_, _, _, _]) (.cons_cons _ (.cons_cons _ (.cons_cons _ (.cons_cons _ (.cons _ (.refl _))))))
   exact rn ⟨i + 1, b, _, _, rfl, by omega, hb, rfl, hS⟩
  refine aq2 ?_
  refine wcb (fun h103 => ?_) (fun h103 => ?_)
  ·have hne := (opn_6 ha hb (by omega)).1
   have hnl := List.length_pos_iff.2 hne
   refine aq3 ?_
   refine wvz (v := .int .i64 (((a.opn.length - 1) : Nat) : Int)) (op_subE rfl rfl (by unfold In64; omega) (by omega)) ?_
   refine wvz (op_idxF rfl rfl (natA_cast _ _) rfl rfl rfl rfl (hS.row 2 rfl) (by rw [stkN_len]; omega)) ?_
   refine wvz (v := .int .u64 ((exOr y.level.toNat (blkW x (k : Nat) y) a.opn.dropLast : Nat) : Int)) (oM (Row.mk_pt (hS.row 2 rfl) stkN_sub)) ?_
   refine ws_lit1 hS rfl rfl rfl rfl rfl rfl rfl rfl (by decide) (by decide) rfl (by rfl) rfl ?_
   rintro lt111 z hS hk hlt111
   refine ws_append 3 hS rfl rfl rfl rfl rfl rfl rfl rfl rfl rfl rfl (by decide) (hlt111) (by (simp [maxBytes]; omega)) (by (simp [maxBytes]; omega)) ?_
   rintro at112 z hS
   have hS : SH _ [_, _, _, _, _] z _ := hS
   refine aq1 ?_
   have hS : SH s [ptC (.ptr p0 0 0) [vp, vg, va, vc, vf], ptC (.ptr p5 0 0) [.str y.name, .int .u64 y.level, yp, yr, yv, yb], rowC v9 1 ((stkN y.level.toNat (blkW x (k : Nat) y) a.opn).map uC), rowC at112 1 (((List.range (i + 1)).map (levI x (k : Nat) y)).map uC), ptC (.ptr p12 0 0) [.int .i64 st.kind, .str st.name, vt, ve]] z := by
    rw [← lev_map, ← uC_map, levI_68 ha (.inl (by omega))]; exact hS
   have hS : SH s [ptC (.ptr p0 0 0) [vp, vg, va, vc, vf], ptC (.ptr p5 0 0) [.str y.name, .int .u64 y.level, yp, yr, yv, yb], rowC v9 1 ((stkN y.level.toNat (blkW x (k : Nat) y) b.opn).map uC), rowC at112 1 (((List.range (i + 1)).map (levI x (k : Nat) y)).map uC), ptC (.ptr p12 0 0) [.int .i64 st.kind, .str st.name, vt, ve]] z := by rw [(opn_6 ha hb (by omega)).2]; exact hS
   refine aq0 ?_
   refine wad ?_
   refine aq1 ?_
   have hS := hS.sub (L' := [_, _, _, _]) (.cons_cons _ (.cons_cons _ (.cons_cons _ (.cons_cons _ (.cons _ (.refl _))))))
   exact rn ⟨i + 1, b, _, _, rfl, by omega, hb, rfl, hS⟩
  refine aq2 ?_
  refine wcb (fun h113 => ?_) (fun h113 => ?_)
  ·refine aq0 ?_
   have hne := (opn_8 ha hb (by omega)).1
   have hnl := List.length_pos_iff.2 hne
   refine aq3 ?_
   refine wvz (v := .int .i64 (((a.opn.length - 1) : Nat) : Int)) (op_subE rfl rfl (by unfold In64; omega) (by omega)) ?_
   refine wvz (op_idxF rfl rfl (natA_cast _ _) rfl rfl rfl rfl (hS.row 2 rfl) (by rw [stkN_len]; omega)) ?_
   refine wvz (v := .int .u64 ((exOr y.level.toNat (blkW x (k : Nat) y) a.opn.dropLast : Nat) : Int)) (oM (Row.mk_pt (hS.row 2 rfl) stkN_sub)) ?_
   refine ws_lit1 hS rfl rfl rfl rfl rfl rfl rfl rfl (by decide) (by decide) rfl (by rfl) rfl ?_
   rintro lt121 z hS hk hlt121
   refine ws_append 3 hS rfl rfl rfl rfl rfl rfl rfl rfl rfl rfl rfl (by decide) (hlt121) (by (simp [maxBytes]; omega)) (by (simp [maxBytes]; omega)) ?_
   rintro at122 z hS
   have hS : SH _ [_, _, _, _, _] z _ := hS
   refine aq1 ?_
   have hS : SH s [ptC (.ptr p0 0 0) [vp, vg, va, vc, vf], ptC (.ptr p5 0 0) [.str y.name, .int .u64 y.level, yp, yr, yv, yb], rowC v9 1 ((stkN y.level.toNat (blkW x (k : Nat) y) a.opn).map uC), rowC at122 1 (((List.range (i + 1)).map (levI x (k : Nat) y)).map uC), ptC (.ptr p12 0 0) [.int .i64 st.kind, .str st.name, vt, ve]] z := by
    rw [← lev_map, ← uC_map, levI_68 ha (.inr (by omega))]; exact hS
   refine aq2 ?_
   refine wvz (v := .int .i64 ((a.opn.length : Nat) : Int)) (op_subE rfl rfl (by unfold In64; omega) (by omega)) ?_
   refine wvz (op_cut (l := none) (h := some a.opn.length) (l' := 0) (h' := a.opn.length) rfl rfl (optY_some rfl (natA_cast _ _)) rfl rfl rfl rfl (hS.row 2 rfl) rfl rfl (Nat.zero_le _) (by rw [lmm, stkN_len]; omega)) ?_
   refine aq1 ?_
   have hS := hS.cutR 2 rfl (k := a.opn.length) (by rw [lmm, stkN_len]; omega)
   have hS : SH s [ptC (.ptr p0 0 0) [vp, vg, va, vc, vf], ptC (.ptr p5 0 0) [.str y.name, .int .u64 y.level, yp, yr, yv, yb], rowC (cutA v9 0 a.opn.length) 1 ((stkN y.level.toNat (blkW x (k : Nat) y) b.opn).map uC), rowC at122 1 (((List.range (i + 1)).map (levI x (k : Nat) y)).map uC), ptC (.ptr p12 0 0) [.int .i64 st.kind, .str st.name, vt, ve]] z := by rw [(opn_8 ha hb (by omega)).2, stkN_pop hne, List.map_take]; exact hS
   refine aq0 ?_
   refine wad ?_
   refine aq1 ?_
   have hS := hS.sub (L' := [_, _, _, _]) (.cons_cons _ (.cons_cons _ (.cons_cons _ (.cons_cons _ (.cons _ (.refl _))))))
   exact rn ⟨i + 1, b, _, _, rfl, by omega, hb, rfl, hS⟩
  refine aq3 ?_
  refine wvz (v := .int .i64 ((a.opn.length : Nat) : Int)) (op_subE rfl rfl (by unfold In64; omega) (by omega)) ?_
  refine wvz (op_idxF rfl rfl (natA_cast _ _) rfl rfl rfl rfl (hS.row 2 rfl) (by rw [stkN_len]; omega)) ?_
  refine wvz (v := .int .u64 ((exOr y.level.toNat (blkW x (k : Nat) y) a.opn : Nat) : Int)) (oM (Row.mk_pt (hS.row 2 rfl) (stkN_top _ _ _))) ?_
  refine ws_lit1 hS rfl rfl rfl rfl rfl rfl rfl rfl (by decide) (by decide) rfl (by rfl) rfl ?_
  rintro lt62 z hS hk hlt62
  refine ws_append 3 hS rfl rfl rfl rfl rfl rfl rfl rfl rfl rfl rfl (by decide) (hlt62) (by (simp [maxBytes]; omega)) (by (simp [maxBytes]; omega)) ?_
  rintro at63 z hS
  have hS : SH _ [_, _, _, _, _] z _ := hS
  refine aq1 ?_
  have hS : SH s [ptC (.ptr p0 0 0) [vp, vg, va, vc, vf], ptC (.ptr p5 0 0) [.str y.name, .int .u64 y.level, yp, yr, yv, yb], rowC v9 1 ((stkN y.level.toNat (blkW x (k : Nat) y) a.opn).map uC), rowC at63 1 (((List.range (i + 1)).map (levI x (k : Nat) y)).map uC), ptC (.ptr p12 0 0) [.int .i64 st.kind, .str st.name, vt, ve]] z := by
   rw [← lev_map, ← uC_map, levI_else ha (by omega) (by omega)]; exact hS
  have hS : SH s [ptC (.ptr p0 0 0) [vp, vg, va, vc, vf], ptC (.ptr p5 0 0) [.str y.name, .int .u64 y.level, yp, yr, yv, yb], rowC v9 1 ((stkN y.level.toNat (blkW x (k : Nat) y) b.opn).map uC), rowC at63 1 (((List.range (i + 1)).map (levI x (k : Nat) y)).map uC), ptC (.ptr p12 0 0) [.int .i64 st.kind, .str st.name, vt, ve]] z := by rw [opn_same ha hb (by omega) (by omega) (by omega)]; exact hS
  refine aq0 ?_
  refine wad ?_
  refine aq1 ?_
  have hS := hS.sub (L' := [_, _, _, _]) (.cons_cons _ (.cons_cons _ (.cons_cons _ (.cons_cons _ (.cons _ (.refl _))))))
  exact rn ⟨i + 1, b, _, _, rfl, by omega, hb, rfl, hS⟩
 obtain rfl : i = y.body.length := by omega
 refine aq2 ?_
 exact ⟨_, rfl, hK, by rw [levsN_in hy, levY_yes h41]; exact hS.row 3 rfl, fun g hg => (hS.bd 3 rfl g hg).1⟩
end Go.Ab
namespace Go.Ab
open Go.Proofs
end Go.Ab
namespace Go.Ab
open Go.Proofs
end Go.Ab
namespace Go.Ab
open Go.Proofs
end Go.Ab
namespace Go.Ab
open Go.Proofs
theorem within_n {s : St} {a b : Nat} (hok : s.Ok) (ha : a < 2 ^ 64) (hb : b < 2 ^ 64) : CallS Tryz.prog Tt Kt 75 [.int .u64 (a : Nat), .int .u64 (b : Nat)] s fun r s' => Keep [] s s' ∧ r = .bool (wN a b) :=
 (within_ok hok).mono fun r z' h => ⟨h.1, by rw [h.2, wI_nat ha hb]; rfl⟩
set_option maxRecDepth 10000 in
set_option maxHeartbeats 8000000 in
theorem want_ok {s : St} {c9 c7 : Nat} {al : Bool} {lv l w : Nat} (hok : s.Ok) (h9 : Pt s.h (.ptr c9 0 0) [.bool al]) (hp7 : Pt s.h (.ptr c7 0 0) [.int .u64 (lv : Nat)]) (hl : l < 2 ^ 64) (hlv : lv < 2 ^ 64) (hw : w < 2 ^ 64) :
  CallS Tryz.prog Tt Kt 74 [.int .u64 (l : Nat), .int .u64 (w : Nat), .ptr c9 0 0, .ptr c7 0 0] s fun r s' => Keep [c9] s s' ∧ Pt s'.h (.ptr c9 0 0) [.bool (al && wN (l ||| lv) w)] ∧ r = .tup [] := by
 refine call_of (fn := Tryz.f74) (nt := 15) Tryz.func74 rfl rfl rfl ?_
 have hS := SH.startX hok h9
 have hK := hS.K
 refine aq0 ?_
 refine wvz (v := .bool al) (oL 0 hS) ?_
 refine aq1 ?_
 refine w_split (i := 7) rfl (fun h7 => ?_) (fun h7 => ?_)
 ·refine aq1 ?_
  refine wvz (v := .int .u64 (lv : Nat)) (oM hp7) ?_
  refine w_litT (c := [.int .u64 (l : Nat), .int .u64 (lv : Nat)]) [[.int .u64 (l : Nat)], [.int .u64 (lv : Nat)]] hS rfl rfl rfl rfl rfl rfl rfl (by decide) (by decide) rfl rfl rfl (by intro c hc; simp only [List.mem_cons, nmn, or_false] at hc; rcases hc with rfl | rfl <;> exact ⟨rfl, rfl⟩) rfl ?_
  rintro lv1 r z hr hS
  have hS : SH _ [_] z _ := hS
  refine w_call rfl rfl (op_call rfl rfl rfl rfl) ((join_ok (ls := [(l : Nat), (lv : Nat)]) hS.ok (by simp) hr)) ?_
  rintro _ z ⟨hk, rfl⟩
  have hS := hS.mov hk
  rw [join_two hl hlv]
  refine aq1 ?_
  refine wkz (within_n hS.ok (or64 hl hlv) hw) ?_
  rintro _ z ⟨hk, rfl⟩
  have hS := hS.mov hk
  have hK := hS.K
  refine aq1 ?_
  first | refine ws_storeL 0 hS rfl rfl rfl rfl rfl rfl (by first | rfl | assumption | exact Row.leaf (by assumption)) (nl rfl) ?_ | refine ws_store 0 hS rfl rfl rfl rfl rfl rfl (by first | rfl | assumption | exact Row.leaf (by assumption)) (nl rfl) ?_
  rintro z hS
  have hS : SH _ [_] z _ := hS
  refine aq0 ?_
  exact ⟨_, rfl, hS.K, by rw [h7]; exact hS.pt 0 rfl, rfl⟩
 refine aq7 ?_
 first | refine ws_storeL 0 hS rfl rfl rfl rfl rfl rfl (by first | rfl | assumption | exact Row.leaf (by assumption)) (nl rfl) ?_ | refine ws_store 0 hS rfl rfl rfl rfl rfl rfl (by first | rfl | assumption | exact Row.leaf (by assumption)) (nl rfl) ?_
 rintro z hS
 have hS : SH _ [_] z _ := hS
 refine aq0 ?_
 exact ⟨_, rfl, hS.K, by rw [h7]; exact hS.pt 0 rfl, rfl⟩
set_option maxRecDepth 10000 in
set_option maxHeartbeats 8000000 in
theorem lab_ok {s : St} {c4 c5 : Nat} {c : List AV} {x : SrcL} {k : Nat} {y : FunL} {nm : ByteArray} (hok : s.Ok) (hx : x.small) (hfi : x.fine) (hv : SrcP x c) (hy : x.funcs[k]? = some y) (h4 : Pt s.h (.ptr c4 0 0) c) (h5 : Pt s.h (.ptr c5 0 0) [.int .i64 (k : Nat)]) :
  CallS Tryz.prog Tt Kt 76 [.str nm, .ptr c4 0 0, .ptr c5 0 0] s fun r s' => Keep [] s s' ∧ r = .int .u64 (nmL x (k : Nat) nm : Nat) := by
 obtain ⟨vp, vg, va, vc, vf, hc, -⟩ := id hv
 subst hc
 refine call_of (fn := Tryz.f76) (nt := 18) Tryz.func76 rfl rfl rfl ?_
 refine aq0 ?_
 have hS := SH.start hok
 have hK := hS.K
 refine aq1 ?_
 obtain ⟨⟨a, b⟩, hp⟩ : ∃ p, fN x (k : Nat) nm = p := ⟨_, rfl⟩
 have hcall : ∀ {s' : St}, s'.Ok → CallS Tryz.prog Tt Kt 15 [.agg [vp, vg, va, vc, vf], .int .i64 (k : Nat), .str nm] s' fun r z' => Keep [] s' z' ∧ r = .tup [.agg [.int .i64 a, .int .i64 b], .bool (a != 0)] := fun ho => (find_ok ho hx hv).mono fun r z' h => ⟨h.1, by rw [h.2, hp]; rfl⟩
 refine aq0 ?_
 refine wvz (v := .agg [vp, vg, va, vc, vf]) (oM (Pt.keep0 h4 hK)) ?_
 refine wvz (v := .int .i64 (k : Nat)) (oM (Pt.keep0 h5 hK)) ?_
 refine aq1 ?_
 refine wkz (hcall hS.ok) ?_
 rintro _ z ⟨hk, rfl⟩
 have hS := hS.mov hk
 refine aq3 ?_
 refine ws_alloc hS rfl rfl rfl rfl ?_
 rintro p5 z hS hk
 have hS : SH _ [_] z _ := hS
 have hK := hS.K
 first | refine ws_storeL 0 hS rfl rfl rfl rfl rfl rfl (by first | rfl | assumption | exact Row.leaf (by assumption)) (nl rfl) ?_ | refine ws_store 0 hS rfl rfl rfl rfl rfl rfl (by first | rfl | assumption | exact Row.leaf (by assumption)) (nl rfl) ?_
 rintro z hS
 have hS : SH _ [_] z _ := hS
 have hK := hS.K
 refine aq1 ?_
 refine wvz (v := .agg [vp, vg, va, vc, vf]) (oM (Pt.keep0 h4 hK)) ?_
 refine wvz (v := .int .i64 (k : Nat)) (oM (Pt.keep0 h5 hK)) ?_
 refine wvz (v := .agg [.int .i64 a, .int .i64 b]) (oL 0 hS) ?_
 refine wkz (of_ok hS.ok hx hfi hv hy hp) ?_
 rintro _ z ⟨hk, rfl⟩
 have hS := hS.mov hk
 have hK := hS.K
 refine aq1 ?_
 exact ⟨_, rfl, hK, by rw [nmL, hp]; rfl⟩
end Go.Ab
