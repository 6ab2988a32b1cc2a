/- 'Rows.TrimModulesUptoSaid': whatever module comes in (of bulk at most 1048576), the law returns true and it reads as it did. -/
import Derived.Test.YtdpdlmjlahehoaaTrimModules2
import Derived.ChangeArms
import Derived.WideShapes
import Derived.Test.YtdpdlmjlahehoaaRows
import Derived.WalkKit
import Derived.ProofKit
import Derived.OpenShut
import Derived.JoinedCond
import Derived.Below
import Derived.Carry
/- louverlaw26.TrimModules. -/
namespace Go.Ab
open Go.Proofs
theorem trimM_few {m : ModL} (hm : m.small) : (trimM m).small ∧ (trimM m).funcs.length ≤ 1000 := by
  refine ⟨trimM_small hm, ?_⟩
  by_cases h : trimE m = 0
  · have hok : okM m = true := by
      cases e : okM m with
      | true => rfl
      | false => rw [trimE_err e] at h; cases h
    have hn := okM_funcs hok
    rw [show trimM m = ⟨m.globals, m.arrays, m.channels, m.funcs.map trimF⟩ from if_pos h]
    rw [List.length_map]; exact hn
  · rw [show trimM m = ⟨[], [], [], []⟩ from if_neg h]; simp
set_option maxRecDepth 10000 in
set_option maxHeartbeats 8000000 in
theorem trimModules_run {s : St} {ca : List AV} {mm : ModL} (hok : s.Ok) (hmm : mm.small) (hva : ModR s.h mm ca) :
    CallS Try.prog Tt Kt 9 [.agg ca] s (fun r _ => r = .bool true) := by
  have hza := hva.leaf.2
  obtain ⟨a0, a1, a2, a3, rfl⟩ := hva.four
  refine call_of (fn := Try.f9) (nt := 59) Try.func9 rfl rfl rfl ?_
  repeat refine wc_seq ?_
  have hS := SH.start hok
  have hK := hS.K
  refine wc_region ?_
  refine ws_box hS rfl rfl rfl hza ?_
  rintro p0 z hS hk
  have hS : SH _ [_] z := hS
  have hK := hS.K
  refine w_val rfl rfl (op_pure rfl) ?_
  refine w_nil ?_
  refine then_n ?_
  repeat refine wc_seq ?_
  refine wc_region ?_
  refine w_val rfl rfl (op_loadC 0 hS rfl rfl rfl (Nat.le_of_ble_eq_true rfl) rfl) ?_
  refine w_call rfl rfl (op_call rfl rfl rfl rfl) (lentModule_ok hK.ok hmm (ModR.keep0 hva hK)) ?_
  rintro _ z1 ⟨hk, cx, rfl, hmx⟩
  obtain ⟨x0, x1, x2, x3, rfl⟩ := hmx.to.to.four
  have hS := hS.add hk (gC ModLF good_mod (Fr z.ctr z1.ctr []) mm [x0, x1, x2, x3]) hmx (fun g hg => ⟨hg.1, hg.2.1⟩)
  clear hmx
  have hS : SH _ [_, _] z1 := hS
  have hK := hS.K
  refine ws_alloc hS rfl rfl rfl rfl ?_
  rintro p2 z hS hk
  have hS : SH _ [_, _, _] z := hS
  have hK := hS.K
  refine ws_store 2 hS rfl rfl rfl rfl rfl rfl (ModLR.to (ModLF.to (hS.get 1 rfl))).leaf.2 (Nat.le_of_ble_eq_true rfl) ?_
  rintro z hS
  have hS : SH _ [_, _, _] z := hS
  have hK := hS.K
  refine w_nil ?_
  refine then_n ?_
  repeat refine wc_seq ?_
  refine wc_region ?_
  refine w_val rfl rfl (op_loadC 2 hS rfl rfl rfl (Nat.le_of_ble_eq_true rfl) rfl) ?_
  refine w_call rfl rfl (op_call rfl rfl rfl rfl) (trim_ok hK.ok hmm (ModLF.to (hS.get 1 rfl))) ?_
  rintro _ z1 ⟨hk, M, rfl, hmM, hbM⟩
  have hS := hS.add hk (modC (trimM mm) M) hmM (fun g ⟨v, hv, hg⟩ => ⟨hbM v hv g hg, all_lt hmM hk.ok hv g hg⟩)
  have hlM := hmM.cells_leaf
  clear hmM hbM
  have hS : SH _ [_, _, _, _] z1 := hS
  have hK := hS.K
  refine w_val rfl rfl (op_pure rfl) ?_
  refine w_val rfl rfl (op_pure rfl) ?_
  refine w_val rfl rfl (op_pure rfl) ?_
  refine ws_alloc hS rfl rfl rfl rfl ?_
  rintro p4 z hS hk
  have hS : SH _ [_, _, _, _, _] z := hS
  have hK := hS.K
  refine ws_store 4 hS rfl rfl rfl rfl rfl rfl hlM (Nat.le_of_ble_eq_true rfl) ?_
  rintro z hS
  have hS : SH _ [_, _, _, _, _] z := hS
  have hK := hS.K
  refine w_val rfl rfl (op_pure rfl) ?_
  refine w_nil ?_
  refine then_n ?_
  repeat refine wc_seq ?_
  refine wc_region ?_
  refine w_val rfl rfl (op_loadC 2 hS rfl rfl rfl (Nat.le_of_ble_eq_true rfl) rfl) ?_
  refine w_call rfl rfl (op_call rfl rfl rfl rfl) (trim_ok hK.ok hmm (ModLF.to (hS.get 1 rfl))) ?_
  rintro _ z1 ⟨hk, N, rfl, hmN, hbN⟩
  have hS := hS.add hk (modC (trimM mm) N) hmN (fun g ⟨v, hv, hg⟩ => ⟨hbN v hv g hg, all_lt hmN hk.ok hv g hg⟩)
  have hlN := hmN.cells_leaf
  clear hmN hbN
  have hS : SH _ [_, _, _, _, _, _] z1 := hS
  have hK := hS.K
  refine w_val rfl rfl (op_pure rfl) ?_
  refine w_val rfl rfl (op_pure rfl) ?_
  refine w_val rfl rfl (op_pure rfl) ?_
  refine ws_alloc hS rfl rfl rfl rfl ?_
  rintro p6 z hS hk
  have hS : SH _ [_, _, _, _, _, _, _] z := hS
  have hK := hS.K
  refine ws_store 6 hS rfl rfl rfl rfl rfl rfl hlN (Nat.le_of_ble_eq_true rfl) ?_
  rintro z hS
  have hS : SH _ [_, _, _, _, _, _, _] z := hS
  have hK := hS.K
  refine w_val rfl rfl (op_pure rfl) ?_
  refine w_nil ?_
  refine then_n ?_
  repeat refine wc_seq ?_
  refine wc_region ?_
  refine w_val rfl rfl (op_loadC 0 hS rfl rfl rfl (Nat.le_of_ble_eq_true rfl) rfl) ?_
  refine w_call rfl rfl (op_call rfl rfl rfl rfl) (trim_ref_ok hK.ok hmm (ModR.keep0 hva hK)) ?_
  rintro _ z1 ⟨hk, cw, rfl, hw⟩
  obtain ⟨w0, w1, w2, w3, rfl⟩ := hw.four
  have hS := hS.mov hk
  have hK := hS.K
  have hlw := hw.leaf.2
  refine w_val rfl rfl (op_pure rfl) ?_
  refine w_val rfl rfl (op_pure rfl) ?_
  refine w_val rfl rfl (op_pure rfl) ?_
  refine w_alloc rfl rfl rfl rfl hK.ok ?_
  intro z2 hp hka hca
  refine w_store_all rfl rfl rfl rfl rfl (by rfl) hlw hka.ok hp (by simp [AV.gs]) ?_
  intro z3 hp hkb hcb
  have hkb' : Keep [] z1 z3 := hka.fresh hkb (fun g hg => by rw [List.mem_singleton.1 hg]; exact Nat.le_refl _)
  have hS := hS.add hkb' (ptC (.ptr z1.ctr 0 0) [w0, w1, w2, w3]) hp (fun g hg => by rw [List.mem_singleton.1 hg]; omega)
  have hw := hw.keep0 hkb'
  generalize z1.ctr = p10 at *
  clear hkb' hka hkb hp hca hcb hk
  have hS : SH _ [_, _, _, _, _, _, _, _] z3 := hS
  have hK := hS.K
  refine w_val rfl rfl (op_pure rfl) ?_
  refine w_nil ?_
  refine then_n ?_
  repeat refine wc_seq ?_
  refine wc_region ?_
  refine w_val rfl rfl (op_pure rfl) ?_
  refine w_val rfl rfl (op_pure rfl) ?_
  refine w_val rfl rfl (op_int (v := .bool true) rfl rfl (by decide) (by simp [intA])) ?_
  refine w_val rfl rfl (op_pure rfl) ?_
  refine w_val rfl rfl (op_loadC 4 hS rfl rfl rfl (Nat.le_of_ble_eq_true rfl) rfl) ?_
  refine w_val rfl rfl (op_loadC 7 hS rfl rfl rfl (Nat.le_of_ble_eq_true rfl) rfl) ?_
  refine w_call rfl rfl (op_call rfl rfl rfl rfl) (module_same hK.ok (trimM_few hmm).1 (ModO.r (hS.get 3 rfl)) hw) ?_
  rintro _ z1 ⟨hk, rfl⟩
  have hS := hS.mov hk
  have hw := ModR.keep0 hw hk
  have hK := hS.K
  refine w_val rfl rfl (op_pure rfl) ?_
  refine w_val rfl rfl (op_pure rfl) ?_
  refine w_val rfl rfl (op_loadC 6 hS rfl rfl rfl (Nat.le_of_ble_eq_true rfl) rfl) ?_
  refine w_val rfl rfl (op_loadC 7 hS rfl rfl rfl (Nat.le_of_ble_eq_true rfl) rfl) ?_
  refine w_call rfl rfl (op_call rfl rfl rfl rfl) (module_same hK.ok (trimM_few hmm).1 (ModO.r (hS.get 5 rfl)) hw) ?_
  rintro _ z1 ⟨hk, rfl⟩
  have hS := hS.mov hk
  have hw := ModR.keep0 hw hk
  have hK := hS.K
  refine w_val rfl rfl (op_pure rfl) ?_
  refine w_val rfl rfl (op_pure rfl) ?_
  refine w_val rfl rfl (op_loadC 2 hS rfl rfl rfl (Nat.le_of_ble_eq_true rfl) rfl) ?_
  refine w_val rfl rfl (op_loadC 0 hS rfl rfl rfl (Nat.le_of_ble_eq_true rfl) rfl) ?_
  refine w_call rfl rfl (op_call rfl rfl rfl rfl) (keptModule_ok hK.ok hmm (ModLF.to (hS.get 1 rfl)) (ModR.keep0 hva hK)) ?_
  rintro _ z1 ⟨hk, rfl⟩
  have hS := hS.mov hk
  have hK := hS.K
  refine w_val rfl rfl (op_pure rfl) ?_
  refine w_val rfl rfl (op_pure rfl) ?_
  refine w_val rfl rfl (op_loadC 4 hS rfl rfl rfl (Nat.le_of_ble_eq_true rfl) rfl) ?_
  refine w_val rfl rfl (op_loadC 6 hS rfl rfl rfl (Nat.le_of_ble_eq_true rfl) rfl) ?_
  have hMN := mods2 (hS.get 3 rfl) (hS.get 5 rfl) (trimM_few hmm) (fun u hu w hw' g hg hg' => hS.dis 3 5 _ _ (by decide) rfl rfl g ⟨u, hu, hg⟩ ⟨w, hw', hg'⟩)
  refine w_lit (c := [M.vg, M.va, M.vh, M.vf, N.vg, N.va, N.vh, N.vf]) [M.cells, N.cells] rfl rfl rfl rfl rfl rfl rfl (by decide) (by decide) rfl (by have h1 := hlM; have h2 := hlN; unfold MemM.cells at h1 h2; simp only [List.all_cons, List.all_nil, Bool.and_true, Bool.and_eq_true] at h1 h2 ⊢; simp [h1, h2]) rfl (lit2_cells ⟨rfl, hlM⟩ ⟨rfl, hlN⟩) rfl hK.ok ?_
  intro v z2 hv hk2 hc2 hvg
  have hMN := hMN.keep hk2 (fun _ _ _ _ _ _ h => by cases h)
  have hS := hS.add hk2 (rowC v 4 [M.cells, N.cells]) ⟨hv, fun e => by rw [hvg] at e; cases e⟩ (row_newb hk2 hv hvg hc2)
  have hS : SH _ [_, _, _, _, _, _, _, _, _] z2 := hS
  have hK := hS.K
  refine w_call rfl rfl (op_call rfl rfl rfl rfl) (modules_ok (data := [(trimM mm, M), (trimM mm, N)]) hK.ok (hS.row 8 rfl) hMN (fun g hg h => by
    rcases allG2 h with h | h
    · exact hS.dis 8 3 _ _ (by decide) rfl rfl g hg h
    · exact hS.dis 8 5 _ _ (by decide) rfl rfl g hg h)) ?_
  rintro _ z1 ⟨hk, rfl⟩
  have hS := hS.kill2 3 5 (by decide) rfl rfl hk (fun g hg => allG2 hg)
  have hS : SH _ [_, _, _, _, _, _, _, _, _] z1 := hS
  have hK := hS.K
  refine w_val rfl rfl (op_pure rfl) ?_
  refine w_val rfl rfl (op_pure rfl) ?_
  refine w_val rfl rfl (op_loadC 2 hS rfl rfl rfl (Nat.le_of_ble_eq_true rfl) rfl) ?_
  refine w_val rfl rfl (op_loadC 0 hS rfl rfl rfl (Nat.le_of_ble_eq_true rfl) rfl) ?_
  refine w_call rfl rfl (op_call rfl rfl rfl rfl) (keptModule_ok hK.ok hmm (ModLF.to (hS.get 1 rfl)) (ModR.keep0 hva hK)) ?_
  rintro _ z1 ⟨hk, rfl⟩
  have hS := hS.mov hk
  have hK := hS.K
  refine w_val rfl rfl (op_pure rfl) ?_
  refine w_val rfl rfl (op_pure rfl) ?_
  refine w_call rfl rfl (op_call rfl rfl rfl rfl) (call_known (b := true) (Q := fun r s' => r = .bool true ∧ s' = _) rfl ⟨rfl, rfl⟩) ?_
  rintro _ _ ⟨rfl, rfl⟩
  refine w_val rfl rfl (op_pure rfl) ?_
  refine w_val rfl rfl (op_pure rfl) ?_
  refine w_nil ?_
  refine then_n ?_
  refine wc_ret ?_
  repeat first | refine then_r ?_ | refine out_r ?_ | refine round_r ?_ | refine cut_r ?_ | refine sc_r ?_
  exact ⟨_, rfl, rfl⟩
end Go.Ab
/- What came in, as the abstract machine sees it: shapes by type. -/
namespace Go.Ab
/-- Cells that a value of this type may hold: whole numbers, truth values, strings, rows and structs of such. -/
def Shaped (P : Program) : Nat → TypeId → List AV → Prop
  | 0, _, _ => False
  | n + 1, t, us => match P.underlying t with
    | some .bool => ∃ b, us = [.bool b]
    | some (.int k) => ∃ m, us = [.int k m] ∧ (Lit.int k m).wf = true
    | some .string => ∃ s : ByteArray, us = [.str s] ∧ s.size ≤ maxLen
    | some (.slice e) => ∃ nl xs, us = [.ro nl xs] ∧ (nl = true → xs = []) ∧ xs.length ≤ maxLen ∧ ∀ x ∈ xs, x.cells.length = P.cellsOf e ∧ Shaped P n e x.cells
    | some (.struct fs) => us.length = P.cellsOf t ∧ ∀ f ∈ fs.toList, Shaped P n f.type ((us.drop f.offset).take (P.cellsOf f.type))
    | _ => False
/-- The fields lie one behind the other. -/
def tiles (P : Program) : Nat → List Field → Nat → Bool
  | k, [], n => k == n
  | k, f :: r, n => f.offset == k && tiles P (k + P.cellsOf f.type) r n
/-- Types of such values. -/
def Plain (P : Program) : Nat → TypeId → Bool
  | 0, _ => false
  | n + 1, t => match P.underlying t with
    | some .bool | some (.int _) | some .string => true
    | some (.slice e) => P.cellsOf e > 0 && Plain P n e
    | some (.struct fs) => tiles P 0 fs.toList (P.cellsOf t) && fs.toList.all fun f => Plain P n f.type
    | _ => false
end Go.Ab
/- What came in, as the abstract machine sees it: rows of the arguments' data. -/
namespace Go.Ab
def packE {H : Type} (d : DataW H) (cs : List AV) : AV := match d with
  | .agg _ => .agg cs
  | _ => cs.headD .undef
mutual
/-- The cells of what was read. -/
def avs {H : Type} : DataW H → List AV
  | .lit (.int k n) => [.int k n]
  | .lit (.bool b) => [.bool b]
  | .lit (.string bs) => [.str ⟨bs.toArray⟩]
  | .nil => [.ro true []]
  | .slice es _ => [.ro false (elts es)]
  | .agg ds => avsAll ds
  | _ => [.undef]
def avsAll {H : Type} : List (DataW H) → List AV
  | [] => []
  | d :: r => avs d ++ avsAll r
def elts {H : Type} : List (DataW H) → List AV
  | [] => []
  | d :: r => packE d (avs d) :: elts r
end
theorem elts_map {H : Type} : ∀ (l : List (DataW H)), elts l = l.map fun d => packE d (avs d)
  | [] => by rw [elts]; rfl
  | d :: r => by rw [elts, elts_map r]; rfl
/-- Data of a type. -/
def HasTy {H : Type} (P : Program) : Nat → TypeId → DataW H → Prop
  | 0, _, _ => False
  | n + 1, t, d => match P.underlying t with
    | some .bool => ∃ b, d = .lit (.bool b)
    | some (.int k) => ∃ m, d = .lit (.int k m) ∧ (Lit.int k m).wf = true
    | some .string => ∃ bs, d = .lit (.string bs)
    | some (.slice e) => d = .nil ∨ ∃ es sp, d = .slice es sp ∧ ∀ x ∈ es, HasTy P n e x
    | some (.struct fs) => ∃ ds, d = .agg ds ∧ ds.length = fs.toList.length ∧ ∀ (i : Nat) (f : Field) (x : DataW H), fs.toList[i]? = some f → ds[i]? = some x → HasTy P n f.type x
    | _ => False
theorem HasTy.pack {H : Type} {P : Program} {n : Nat} {t : TypeId} {d : DataW H} (h : HasTy P n t d) : (packE d (avs d)).cells = avs d := by
  cases n with
  | zero => exact h.elim
  | succ n =>
    unfold HasTy at h
    split at h
    · obtain ⟨b, rfl⟩ := h; simp [avs, packE, AV.cells]
    · obtain ⟨b, rfl, -⟩ := h; simp [avs, packE, AV.cells]
    · obtain ⟨b, rfl⟩ := h; simp [avs, packE, AV.cells]
    · rcases h with rfl | ⟨es, sp, rfl, -⟩ <;> simp [avs, packE, AV.cells]
    · obtain ⟨ds, rfl, -⟩ := h; simp [avs, packE, AV.cells]
    · exact h.elim
theorem mapM_some' {α β : Type} {f : α → Option β} : ∀ {l : List α} {r : List β}, l.mapM f = some r → l.length = r.length ∧ ∀ (i : Nat) (x : α) (y : β), l[i]? = some x → r[i]? = some y → f x = some y
  | [], r, h => by simp at h; subst h; exact ⟨rfl, fun i x y h => by simp at h⟩
  | a :: l, r, h => by
    rw [List.mapM_cons] at h
    cases ha : f a with
    | none => simp [ha] at h
    | some b =>
      cases hl : l.mapM f with
      | none => simp [ha, hl] at h
      | some r' =>
        simp [ha, hl] at h
        subst h
        obtain ⟨h1, h2⟩ := mapM_some' hl
        refine ⟨by simp [h1], fun i x y hx hy => ?_⟩
        cases i with
        | zero => simp at hx hy; subst hx; subst hy; exact ha
        | succ i => exact h2 i x y (by simpa using hx) (by simpa using hy)
section
variable {H : Type} {enc : TypeId × Value → H} {P : Program} {w : World} {spare : Nat → Bool} {held : Bool} {ρ : Loc}
/-- What a reading of one type gives. -/
def RdOk (w : World) (P : Program) (ρ : Loc) (n : Nat) (t : TypeId) (cs : List Value) (d : DataW H) : Prop :=
  HasTy P n t d ∧ (avs d).length = cs.length ∧ CR w w.heap.size ρ (avs d) cs ∧ (avs d).all AV.leaf = true
theorem fields_read {n : Nat} (ih : ∀ t cs x, DataW.trod enc P w 0 spare held n t cs = some x → ∀ m, Plain P m t = true → RdOk w P ρ n t cs x.1) {m : Nat} {cs : List Value} :
    ∀ (fs : List Field) (k N : Nat) (xs : List (DataW H × List MemPlace)), N = cs.length → xs.length = fs.length → (∀ (i : Nat) (f : Field), fs[i]? = some f → DataW.trod enc P w 0 spare held n f.type ((cs.drop f.offset).take (P.cellsOf f.type)) = xs[i]?) → tiles P k fs N = true → (∀ f ∈ fs, Plain P m f.type = true) →
      (avsAll (xs.map (·.1))).length = (cs.drop k).length ∧ CR w w.heap.size ρ (avsAll (xs.map (·.1))) (cs.drop k) ∧ (avsAll (xs.map (·.1))).all AV.leaf = true ∧ ∀ (i : Nat) (f : Field) (x : DataW H × List MemPlace), fs[i]? = some f → xs[i]? = some x → HasTy P n f.type x.1
  | [], k, N, xs, hN, hl, h, ht, hp => by
    have : xs = [] := List.eq_nil_of_length_eq_zero hl
    subst this
    simp only [tiles, beq_iff_eq] at ht
    subst ht hN
    simp [avsAll, CR.nil]
  | f :: r, k, N, xs, hN, hl, h, ht, hp => by
    cases xs with
    | nil => simp at hl
    | cons b ys =>
      simp only [tiles, Bool.and_eq_true, beq_iff_eq] at ht
      obtain ⟨hoff, ht⟩ := ht
      have h0 := h 0 f rfl
      simp only [List.getElem?_cons_zero] at h0
      obtain ⟨h5, h1, h2, h6⟩ := ih _ _ b h0 m (hp f (List.mem_cons_self ..))
      obtain ⟨h3, h4, h7, h8⟩ := fields_read ih r (k + P.cellsOf f.type) N ys hN (by simpa using hl) (fun i g hg => by have := h (i + 1) g (by simpa using hg); simpa using this) ht (fun g hg => hp g (List.mem_cons_of_mem _ hg))
      rw [hoff] at h1 h2
      have e : cs.drop k = (cs.drop k).take (P.cellsOf f.type) ++ cs.drop (k + P.cellsOf f.type) := by
        rw [← List.drop_drop, List.take_append_drop]
      rw [List.map_cons, avsAll, e]
      refine ⟨by rw [List.length_append, List.length_append, h1, h3], h2.append h4, by rw [List.all_append, h6, h7]; rfl, fun i g x hg hx => ?_⟩
      cases i with
      | zero => simp at hg hx; subst hg; subst hx; exact h5
      | succ i => exact h8 i g x (by simpa using hg) (by simpa using hx)
theorem cells_at {w : World} {base : Nat} {a : Addr} {n : Nat} {cs : List Value} (h : w.cells? base a n = some cs) : cs.length = n ∧ ∀ (k : Nat) (v : Value), cs[k]? = some v → w.cell? (a.add k) = some v := by
  unfold World.cells? at h
  split at h
  · obtain ⟨h1, h2⟩ := mapM_some' h
    refine ⟨by rw [← h1, List.length_range], fun k v hv => ?_⟩
    have hk : k < n := by
      have := (List.getElem?_eq_some_iff.1 hv).1
      rw [← h1, List.length_range] at this; exact this
    exact h2 k k v (by rw [List.getElem?_range hk]) hv
  · cases h
theorem spot_none {w : World} {a : Addr} {v : Value} (h : w.cell? a = some v) : a.spot = none ∧ a.block < w.heap.size := by
  unfold World.cell? at h
  split at h
  · rename_i hb
    split at h
    · cases h
    · rename_i hs
      refine ⟨by simpa using hs, ?_⟩
      rcases Nat.lt_or_ge a.block w.heap.size with hl | hl
      · exact hl
      · rw [Array.getElem?_eq_none hl] at hb; cases hb
  · cases h
theorem CR.sole {u : AV} {v : Value} (h : VR w w.heap.size ρ u v) : CR w w.heap.size ρ [u] [v] := CR.cons h CR.nil
theorem read_ok : ∀ (n : Nat) (t : TypeId) (cs : List Value) (x : DataW H × List MemPlace), DataW.trod enc P w 0 spare held n t cs = some x → ∀ m, Plain P m t = true → RdOk w P ρ n t cs x.1
  | 0, _, _, _, h, _, _ => by simp [DataW.trod] at h
  | n + 1, t, cs, x, h, 0, hp => by simp [Plain] at hp
  | n + 1, t, cs, x, h, m + 1, hp => by
    have ih := fun t cs x h m hp => read_ok n t cs x h m hp
    unfold Plain at hp
    unfold RdOk HasTy
    cases hu : P.underlying t with
    | none => simp [hu] at hp
    | some td =>
      rw [hu] at hp
      cases td with
      | bool =>
        obtain ⟨b, rfl, rfl⟩ := DataW.trod_bool hu h
        exact ⟨⟨b, rfl⟩, by simp [avs], by simp only [avs]; exact CR.sole (.bool b), by simp [avs, AV.leaf]⟩
      | int k =>
        obtain ⟨b, rfl, rfl, hw⟩ := DataW.trod_int hu h
        exact ⟨⟨b, rfl, hw⟩, by simp [avs], by simp only [avs]; exact CR.sole (.int k b), by simp [avs, AV.leaf]⟩
      | string =>
        obtain ⟨b, rfl, rfl, hw⟩ := DataW.trod_string hu h
        exact ⟨⟨_, rfl⟩, by simp [avs], by simp only [avs]; exact CR.sole (.str b), by simp [avs, AV.leaf]⟩
      | slice e =>
        simp only [Bool.and_eq_true, decide_eq_true_eq] at hp
        rcases DataW.trod_slice hu h with ⟨rfl, rfl⟩ | ⟨a, len, cap, elems, rest, n', hn, rfl, rfl, hb, hlc, hcm, hel, helem, -, -⟩
        · refine ⟨.inl rfl, by simp [avs], ?_, by simp [avs, AV.leaf]⟩
          simp only [avs]
          exact CR.sole (.ro true [] none 0 (fun _ _ => undef) (Nat.le_refl _) (by simp) (fun _ => rfl) (fun a h => by cases h) (fun i x h => by simp at h) (fun i x h => by simp at h))
        · obtain rfl : n = n' := by omega
          have hall : ∀ (i : Nat) (y : DataW H × List MemPlace), elems[i]? = some y → ∃ vs, w.cells? 0 (a.add (i * P.cellsOf e)) (P.cellsOf e) = some vs ∧ RdOk w P ρ n e vs y.1 := by
            intro i y hy
            have hi : i < len := by have := (List.getElem?_eq_some_iff.1 hy).1; omega
            have := helem i hi
            rw [hy] at this
            cases hc : w.cells? 0 (a.add (i * P.cellsOf e)) (P.cellsOf e) with
            | none => rw [hc] at this; cases this
            | some vs => rw [hc] at this; exact ⟨vs, rfl, ih e vs y this m hp.2⟩
          refine ⟨.inr ⟨_, _, rfl, fun d hd => ?_⟩, by simp [avs], ?_, by simp [avs, AV.leaf]⟩
          · obtain ⟨y, hy, rfl⟩ := List.mem_map.1 hd
            obtain ⟨i, hi⟩ := List.getElem?_of_mem hy
            obtain ⟨vs, -, h1, -⟩ := hall i y hi
            exact h1
          · simp only [avs]
            refine CR.sole ?_
            have hlen : (elts (elems.map (·.1))).length = len := by rw [elts_map]; simp [hel]
            have hget : ∀ (i : Nat) (u : AV), (elts (elems.map (·.1)))[i]? = some u → ∃ y vs, elems[i]? = some y ∧ w.cells? 0 (a.add (i * P.cellsOf e)) (P.cellsOf e) = some vs ∧ u.cells = avs y.1 ∧ RdOk w P ρ n e vs y.1 := by
              intro i u hu'
              rw [elts_map, List.map_map, List.getElem?_map] at hu'
              cases hy : elems[i]? with
              | none => rw [hy] at hu'; cases hu'
              | some y =>
                rw [hy] at hu'
                obtain ⟨vs, h1, h2⟩ := hall i y hy
                cases hu'
                exact ⟨y, vs, rfl, h1, h2.1.pack, h2⟩
            have hadd : ∀ (b : Addr) (k : Nat), b.spot = none → b.add k = ⟨b.block, b.off + k, none⟩ := by
              intro b k hb
              obtain ⟨b1, b2, b3⟩ := b
              simp only at hb
              subst hb
              unfold Addr.add
              split
              · rename_i h0; rw [h0]; rfl
              · rfl
            have hsp : elems ≠ [] → a.spot = none ∧ a.block < w.heap.size := by
              intro hne
              obtain ⟨y, hy⟩ : ∃ y, elems[0]? = some y := by
                cases elems with
                | nil => exact (hne rfl).elim
                | cons y r => exact ⟨y, rfl⟩
              obtain ⟨vs, h2, -⟩ := hall 0 y hy
              obtain ⟨h7, h8⟩ := cells_at h2
              have hv := List.getElem?_eq_getElem (show 0 < vs.length by rw [h7]; exact hp.1)
              have := h8 0 _ hv
              rw [Nat.zero_mul] at this
              exact spot_none (a := a) this
            have hcell : ∀ (i : Nat) (u : AV), (elts (elems.map (·.1)))[i]? = some u → ∀ (k : Nat) (c : AV), u.cells[k]? = some c → ∃ v, w.cell? ⟨a.block, a.off + i * u.cells.length + k, none⟩ = some v ∧ VR w w.heap.size ρ c v := by
              intro i u hu' k c hc
              obtain ⟨y, vs, hy, h2, h3, h4, h5, h6, -⟩ := hget i u hu'
              obtain ⟨h7, h8⟩ := cells_at h2
              rw [h3] at hc
              have hk : k < vs.length := by rw [← h5]; exact (List.getElem?_eq_some_iff.1 hc).1
              have hv := List.getElem?_eq_getElem hk
              refine ⟨vs[k], ?_, h6.2 k c _ hc hv⟩
              have := h8 k _ hv
              have hs := (hsp (fun e => by rw [e] at hy; simp at hy)).1
              rw [hadd a _ hs, hadd _ _ rfl] at this
              rw [h3, h5, h7]
              exact this
            have key : VR w w.heap.size ρ (.ro false (elts (elems.map (·.1)))) (.slice (some a) (elts (elems.map (·.1))).length cap) := by
              refine .ro false _ (some a) cap (fun i k => match (elts (elems.map (·.1)))[i]? with
                | some u => (w.cell? ⟨a.block, a.off + i * u.cells.length + k, none⟩).getD undef
                | none => undef) (by omega) (by simp) (fun h => by cases h) ?_ ?_ ?_
              · intro a' ha hne
                cases ha
                exact hsp (fun e => hne (by rw [e]; rfl))
              · intro i u hu' k c hc a' ha
                cases ha
                obtain ⟨v, hv, -⟩ := hcell i u hu' k c hc
                simp only [hu', hv]
                rfl
              · intro i u hu' k c hc
                obtain ⟨v, hv, hr⟩ := hcell i u hu' k c hc
                simp only [hu', hv]
                exact hr
            rw [hlen] at key
            exact key
      | struct fs =>
        obtain ⟨xs, n', hn, rfl, hcs, hxl, hx⟩ := DataW.trod_struct hu h
        obtain rfl : n = n' := by omega
        simp only [Bool.and_eq_true, List.all_eq_true] at hp
        obtain ⟨h1, h2, h3, h4⟩ := fields_read (ρ := ρ) ih fs.toList 0 (P.cellsOf t) xs hcs.symm (by simpa using hxl) (fun i f hf => hx i f (by simpa using hf)) hp.1 hp.2
        refine ⟨⟨_, rfl, by simp [hxl], fun i f y hf hy => ?_⟩, ?_, ?_, ?_⟩
        · rw [List.getElem?_map] at hy
          cases hxi : xs[i]? with
          | none => rw [hxi] at hy; cases hy
          | some z => rw [hxi] at hy; cases hy; exact h4 i f z hf hxi
        · simp only [avs]; simpa using h1
        · simp only [avs]; simpa using h2
        · simp only [avs]; exact h3
      | _ => simp at hp
end
end Go.Ab
/- Runs of laws with arguments; rows of what was read. -/
namespace Go.Ab
open Go.WideShapes Go.RowKit
def St.zero : St := ⟨0, .leaf, []⟩
theorem zero_ok : St.zero.Ok := fun _ _ => rfl
theorem run_ok {P : Program} {T : Tab} (hm : P.follows .mixedOrders = true) (hT : TabOk P T) (hng : NoNG P) {K : FuncId → Option Bool} (hK : KOk P K) {f : FuncId} {args : List AV} {args' : Array Value} {w : World}
    (hc : CallS P T K f args St.zero fun r _ => r = .bool true) (ha : CR w w.heap.size (fun _ _ => none) args args'.toList) : Calls P f args' w fun e w' => e = .returned (.bool true) ∧ Below w.heap.size w w' := by
  obtain ⟨N, v, s', rfl, hn⟩ := hc
  have hs : Sim w w.heap.size (fun _ _ => none) St.zero w :=
    { low := Below.refl _ _, big := Nat.le_refl _,
      ver := by intros; simp_all, al := by intros; simp_all, sep := by intros; simp_all, ctr := by intros; simp_all }
  refine ((call_soundK (w0 := w) (B0 := w.heap.size) hm hT hng hK N f args _ _ _ (hn N (Nat.le_refl _))).2 _ w args' hs ha).mono fun e w' ⟨v', ρ', he, _, h2, h3⟩ => ?_
  cases h3
  exact ⟨he, h2.low⟩
section
variable {H : Type} {P : Program} {w : World} {ρ : Loc}
theorem packE_vr {r : Reach} {base n : Nat} {t : TypeId} {v : Value} {d : DataW H} (h : RdOk w P ρ n t v.cells.toList d) (hv : Value.okWide P w r base t v) : VR w w.heap.size ρ (packE d (avs d)) v := by
  obtain ⟨h1, h2, h3, h4⟩ := h
  cases n with
  | zero => exact h1.elim
  | succ n =>
    unfold HasTy at h1
    split at h1
    · rename_i hu
      obtain ⟨b, rfl⟩ := h1
      obtain ⟨b', rfl⟩ := okWide_bool hu hv
      simp only [avs, packE] at h3 ⊢
      exact h3.2 0 _ _ rfl rfl
    · rename_i hu
      obtain ⟨b, rfl, -⟩ := h1
      obtain ⟨b', rfl⟩ := okWide_int hu hv
      simp only [avs, packE] at h3 ⊢
      exact h3.2 0 _ _ rfl rfl
    · rename_i hu
      obtain ⟨b, rfl⟩ := h1
      obtain ⟨b', rfl⟩ := okWide_string hu hv
      simp only [avs, packE] at h3 ⊢
      exact h3.2 0 _ _ rfl rfl
    · rename_i hu
      obtain ⟨a, len, cap, rfl⟩ := okWide_slice hu hv
      rcases h1 with rfl | ⟨es, sp, rfl, -⟩
      · simp only [avs, packE] at h3 ⊢
        exact h3.2 0 _ _ rfl rfl
      · simp only [avs, packE] at h3 ⊢
        exact h3.2 0 _ _ rfl rfl
    · rename_i hu
      obtain ⟨arr, rfl, -⟩ := okWide_struct hu hv
      obtain ⟨ds, rfl, -⟩ := h1
      simp only [packE]
      have e : Value.cells (.agg arr) = arr := rfl
      rw [e] at h2 h3
      exact .agg _ arr (by simpa using h2) fun i u v hu hv => h3.2 i u v hu (by simpa using hv)
    · exact h1.elim
def dElems : DataW H → List (DataW H)
  | .slice es _ => es
  | _ => []
def dInt : DataW H → Int
  | .lit (.int _ n) => n
  | _ => 0
def dBool : DataW H → Bool
  | .lit (.bool b) => b
  | _ => false
def dStr : DataW H → ByteArray
  | .lit (.string bs) => ⟨bs.toArray⟩
  | _ => ByteArray.empty
theorem ty_int {n : Nat} {t : TypeId} {k : IntKind} {d : DataW H} (h : HasTy P n t d) (hu : P.underlying t = some (.int k)) : avs d = [.int k (dInt d)] ∧ (Lit.int k (dInt d)).wf = true := by
  cases n with
  | zero => exact h.elim
  | succ n =>
    unfold HasTy at h
    rw [hu] at h
    obtain ⟨m, rfl, hw⟩ := h
    exact ⟨by simp [avs, dInt], hw⟩
theorem ty_slice {n : Nat} {t e : TypeId} {d : DataW H} (h : HasTy P n t d) (hu : P.underlying t = some (.slice e)) : ∃ m nl, avs d = [.ro nl (elts (dElems d))] ∧ packE d (avs d) = .ro nl (elts (dElems d)) ∧ ∀ x ∈ dElems d, HasTy P m e x := by
  cases n with
  | zero => exact h.elim
  | succ n =>
    unfold HasTy at h
    rw [hu] at h
    rcases h with rfl | ⟨es, sp, rfl, hx⟩
    · exact ⟨n, true, by simp [avs, dElems, elts], by simp [avs, dElems, elts, packE], fun x hx => by cases hx⟩
    · exact ⟨n, false, by simp [avs, dElems], by simp [avs, dElems, packE], hx⟩
theorem ty_struct {n : Nat} {t : TypeId} {fs : Array Field} {d : DataW H} (h : HasTy P n t d) (hu : P.underlying t = some (.struct fs)) : ∃ m ds, d = .agg ds ∧ ds.length = fs.toList.length ∧ ∀ (i : Nat) (f : Field) (x : DataW H), fs.toList[i]? = some f → ds[i]? = some x → HasTy P m f.type x := by
  cases n with
  | zero => exact h.elim
  | succ n =>
    unfold HasTy at h
    rw [hu] at h
    obtain ⟨ds, h1, h2, h3⟩ := h
    exact ⟨n, ds, h1, h2, h3⟩
theorem row_elts {h : Tr Grp} {sz m : Nat} {e : TypeId} {nl : Bool} {es : List (DataW H)} (ht : ∀ x ∈ es, HasTy P m e x) (hc : ∀ x ∈ es, (avs x).length = sz ∧ (avs x).all AV.leaf = true) : Row h sz (.ro nl (elts es)) (es.map avs) := by
  refine ⟨?_, ?_⟩
  · rw [elts_map, List.map_map]
    exact List.map_congr_left fun x hx => (ht x hx).pack
  · intro c hc'
    obtain ⟨x, hx, rfl⟩ := List.mem_map.1 hc'
    exact hc x hx
/-- A row of flat elements. -/
theorem rowF_elts {h : Tr Grp} {sz m : Nat} {e : TypeId} {nl : Bool} {es : List (DataW H)} {α : Type} {f : DataW H → α} {c : α → List AV} (ht : ∀ x ∈ es, HasTy P m e x) (hx : ∀ x ∈ es, avs x = c (f x)) (hc : ∀ a, (c a).length = sz ∧ (c a).all AV.leaf = true) : Row h sz (.ro nl (elts es)) ((es.map f).map c) := by
  have := row_elts (h := h) (sz := sz) (nl := nl) ht fun x hx' => by rw [hx x hx']; exact hc _
  rw [List.map_map]
  rw [show es.map (c ∘ f) = es.map avs from List.map_congr_left fun x hx' => (hx x hx').symm]
  exact this
/-- A row of rows. -/
theorem rowR_elts {h : Tr Grp} {sz m : Nat} {e : TypeId} {nl : Bool} {es : List (DataW H)} {α : Type} {f : DataW H → α} {R : Tr Grp → α → List AV → Prop} (ht : ∀ x ∈ es, HasTy P m e x) (hx : ∀ x ∈ es, R h (f x) (avs x)) (hc : ∀ x ∈ es, (avs x).length = sz ∧ (avs x).all AV.leaf = true) : RowR h sz R (.ro nl (elts es)) (es.map f) := by
  refine ⟨_, row_elts ht hc, by simp, fun i a c h1 h2 => ?_⟩
  rw [List.getElem?_map] at h1 h2
  cases hy : es[i]? with
  | none => rw [hy] at h1; cases h1
  | some y =>
    rw [hy] at h1 h2
    cases h1
    cases h2
    exact hx y (List.mem_of_getElem? hy)
end
end Go.Ab
/- What the abstract machine asks of this program: the table, the orders. -/
namespace Go.Ab
open Go.Proofs
theorem tt_ok : TabOk Try.prog Tt := tab_ok (by kernel_rfl)
theorem prog_ng : NoNG Try.prog := ng_ok (by kernel_rfl)
theorem prog_mixed : Try.prog.follows .mixedOrders = true := by kernel_rfl
end Go.Ab
/- The table of closed functions is right. -/
namespace Go.Ab
open Go.Proofs Go.RowKit
theorem known_of {P : Program} {T : Tab} (hm : P.follows .mixedOrders = true) (hT : TabOk P T) (hng : NoNG P) {n : Nat} {f : FuncId} (h : yes (evCall P T n f [] ⟨0, .leaf, []⟩) = true) :
    Callable P f ∧ ∀ w, Calls P f #[] w fun e w' => e = .returned (.bool true) ∧ Below w.heap.size w w' := by
  refine ⟨?_, fun w => closed_run hm hT hng h w⟩
  cases hr : evCall P T n f [] ⟨0, .leaf, []⟩ with
  | none => simp [hr, yes] at h
  | some r => exact (call_sound (w0 := default) (B0 := 0) hm hT hng n f [] _ _ _ hr).1
set_option maxRecDepth 1000000 in
theorem awake26 : yes (evCall Try.prog Tt 3000 16 [] ⟨0, .leaf, []⟩) = true := by kernel_rfl
set_option maxRecDepth 1000000 in
theorem awake27 : yes (evCall Try.prog Tt 3000 33 [] ⟨0, .leaf, []⟩) = true := by kernel_rfl
theorem kt_ok : KOk Try.prog Kt := by
  intro f b h
  unfold Kt at h
  cases h1 : Nat.beq f 16 with
  | true =>
    rw [h1, cond_true] at h
    cases h
    rw [Nat.eq_of_beq_eq_true h1]
    exact known_of prog_mixed tt_ok prog_ng awake26
  | false =>
    rw [h1, cond_false] at h
    cases h2 : Nat.beq f 33 with
    | true =>
      rw [h2, cond_true] at h
      cases h
      rw [Nat.eq_of_beq_eq_true h2]
      exact known_of prog_mixed tt_ok prog_ng awake27
    | false => rw [h2, cond_false] at h; cases h
end Go.Ab
/- What is read of a module, an array, a function, an instruction; how much a reading holds. -/
namespace Go.Ab
open Go.Proofs
section
variable {H : Type} {h : Tr Grp} {n : Nat} {d : DataW H}
theorem wf_in {a : Int} (h : (Lit.int .i64 a).wf = true) : In64 a := by
  simp only [Lit.wf, Bool.and_eq_true, decide_eq_true_eq] at h
  have e1 : IntKind.i64.min = -9223372036854775808 := by decide
  have e2 : IntKind.i64.max = 9223372036854775807 := by decide
  rw [e1, e2] at h
  unfold In64
  omega
def toInstr : DataW H → InstrL
  | .agg [a, b] => ⟨dInt a, dInt b⟩
  | _ => ⟨0, 0⟩
def toArr : DataW H → ArrL
  | .agg [a, b] => ⟨dInt a, dInt b⟩
  | _ => ⟨0, 0⟩
def toFunc : DataW H → FuncL
  | .agg [l, p, r, a, b, c] => ⟨dInt l, (dElems p).map dInt, (dElems r).map dInt, dInt a, dInt b, (dElems c).map toInstr⟩
  | _ => ⟨0, [], [], 0, 0, []⟩
def toMod : DataW H → ModL
  | .agg [g, a, c, f] => ⟨(dElems g).map dInt, (dElems a).map toArr, (dElems c).map dInt, (dElems f).map toFunc⟩
  | _ => ⟨[], [], [], []⟩
theorem instr_of (k : HasTy Try.prog n 50 d) : avs d = inC (toInstr d) ∧ In64 (toInstr d).op ∧ In64 (toInstr d).a := by
  obtain ⟨m, ds, rfl, hl, hx⟩ := ty_struct k Try.underlying50
  match ds, hl, hx with
  | [a, b], _, hx =>
    have h0 := ty_int (hx 0 _ a rfl rfl) Try.underlying3
    have h1 := ty_int (hx 1 _ b rfl rfl) Try.underlying2
    refine ⟨?_, wf_in h0.2, wf_in h1.2⟩
    simp only [avs, avsAll, h0.1, h1.1, toInstr, inC]
    rfl
theorem arr_of (k : HasTy Try.prog n 71 d) : avs d = aC (toArr d) := by
  obtain ⟨m, ds, rfl, hl, hx⟩ := ty_struct k Try.underlying71
  match ds, hl, hx with
  | [a, b], _, hx =>
    have h0 := ty_int (hx 0 _ a rfl rfl) Try.underlying3
    have h1 := ty_int (hx 1 _ b rfl rfl) Try.underlying45
    simp only [avs, avsAll, h0.1, h1.1, toArr, aC]
    rfl
theorem labels_of (k : HasTy Try.prog n 46 d) : ∃ nl, avs d = [.ro nl (elts (dElems d))] ∧ Row h 1 (.ro nl (elts (dElems d))) (((dElems d).map dInt).map lC) := by
  obtain ⟨m, nl, h1, -, h2⟩ := ty_slice k Try.underlying46
  exact ⟨nl, h1, rowF_elts h2 (fun x hx => (ty_int (h2 x hx) Try.underlying45).1) (fun a => ⟨rfl, rfl⟩)⟩
theorem arrs_of (k : HasTy Try.prog n 52 d) : ∃ nl, avs d = [.ro nl (elts (dElems d))] ∧ Row h 2 (.ro nl (elts (dElems d))) (((dElems d).map toArr).map aC) := by
  obtain ⟨m, nl, h1, -, h2⟩ := ty_slice k Try.underlying52
  exact ⟨nl, h1, rowF_elts h2 (fun x hx => arr_of (h2 x hx)) (fun a => ⟨rfl, rfl⟩)⟩
theorem code_of (k : HasTy Try.prog n 30 d) : ∃ nl, avs d = [.ro nl (elts (dElems d))] ∧ packE d (avs d) = .ro nl (elts (dElems d)) ∧ Row h 2 (.ro nl (elts (dElems d))) (((dElems d).map toInstr).map inC) ∧ ∀ y ∈ (dElems d).map toInstr, In64 y.op ∧ In64 y.a := by
  obtain ⟨m, nl, h1, h3, h2⟩ := ty_slice k Try.underlying30
  refine ⟨nl, h1, h3, rowF_elts h2 (fun x hx => (instr_of (h2 x hx)).1) (fun a => ⟨rfl, rfl⟩), fun y hy => ?_⟩
  obtain ⟨x, hx, rfl⟩ := List.mem_map.1 hy
  exact (instr_of (h2 x hx)).2
theorem func_of (k : HasTy Try.prog n 48 d) : FuncR h (toFunc d) (avs d) ∧ ((avs d).length = 6 ∧ (avs d).all AV.leaf = true) ∧ ∀ y ∈ (toFunc d).code, In64 y.op ∧ In64 y.a := by
  obtain ⟨m, ds, rfl, hl, hx⟩ := ty_struct k Try.underlying48
  match ds, hl, hx with
  | [l, p, r, a, b, c], _, hx =>
    have h0 := (ty_int (hx 0 _ l rfl rfl) Try.underlying45).1
    obtain ⟨n1, h1, k1⟩ := labels_of (h := h) (hx 1 _ p rfl rfl)
    obtain ⟨n2, h2, k2⟩ := labels_of (h := h) (hx 2 _ r rfl rfl)
    have h3 := (ty_int (hx 3 _ a rfl rfl) Try.underlying3).1
    have h4 := (ty_int (hx 4 _ b rfl rfl) Try.underlying3).1
    obtain ⟨n3, h5, -, k3, k4⟩ := code_of (h := h) (hx 5 _ c rfl rfl)
    have e1 : avs (.agg [l, p, r, a, b, c]) = [.int .u64 (dInt l), .ro n1 (elts (dElems p)), .ro n2 (elts (dElems r)), .int .i64 (dInt a), .int .i64 (dInt b), .ro n3 (elts (dElems c))] := by
      simp only [avs, avsAll, h0, h1, h2, h3, h4, h5]; rfl
    rw [e1]
    exact ⟨⟨_, _, _, rfl, k1, k2, k3⟩, ⟨rfl, rfl⟩, k4⟩
theorem funcs_of (k : HasTy Try.prog n 53 d) : ∃ nl, avs d = [.ro nl (elts (dElems d))] ∧ RowR h 6 FuncR (.ro nl (elts (dElems d))) ((dElems d).map toFunc) ∧ ∀ x ∈ (dElems d).map toFunc, ∀ y ∈ x.code, In64 y.op ∧ In64 y.a := by
  obtain ⟨m, nl, h1, -, h2⟩ := ty_slice k Try.underlying53
  refine ⟨nl, h1, rowR_elts h2 (fun x hx => (func_of (h2 x hx)).1) (fun x hx => (func_of (h := .leaf) (h2 x hx)).2.1), fun x hx => ?_⟩
  obtain ⟨z, hz, rfl⟩ := List.mem_map.1 hx
  exact (func_of (h := .leaf) (h2 z hz)).2.2
theorem mod_of (k : HasTy Try.prog n 55 d) : ∃ c, packE d (avs d) = .agg c ∧ ModR h (toMod d) c ∧ ∀ x ∈ (toMod d).funcs, ∀ y ∈ x.code, In64 y.op ∧ In64 y.a := by
  obtain ⟨m, ds, rfl, hl, hx⟩ := ty_struct k Try.underlying55
  match ds, hl, hx with
  | [g, a, c, f], _, hx =>
    obtain ⟨n1, h1, k1⟩ := labels_of (h := h) (hx 0 _ g rfl rfl)
    obtain ⟨n2, h2, k2⟩ := arrs_of (h := h) (hx 1 _ a rfl rfl)
    obtain ⟨n3, h3, k3⟩ := labels_of (h := h) (hx 2 _ c rfl rfl)
    obtain ⟨n4, h4, k4, k5⟩ := funcs_of (h := h) (hx 3 _ f rfl rfl)
    have e1 : avs (.agg [g, a, c, f]) = [.ro n1 (elts (dElems g)), .ro n2 (elts (dElems a)), .ro n3 (elts (dElems c)), .ro n4 (elts (dElems f))] := by
      simp only [avs, avsAll, h1, h2, h3, h4]; rfl
    exact ⟨_, rfl, by rw [e1]; exact ⟨_, _, _, _, rfl, k1, k2, k3, k4⟩, k5⟩
end
end Go.Ab
namespace Go.Proofs.Ytdpdlmjlahehoaa
open Go.ChangeShapes Go.WideShapes Go.ChangeAt Go.RowKit Go.Ab
section
variable {H : Type}
theorem bulk_pos' (d : DataW H) : 1 ≤ Rows.uptoBulk d := by
  cases d with
  | lit l => cases l <;> simp [Rows.uptoBulk]
  | _ => simp [Rows.uptoBulk]
theorem bulk_len' : ∀ (es : List (DataW H)), es.length ≤ Rows.uptoBulkAll es
  | [] => by simp [Rows.uptoBulkAll]
  | d :: r => by
    have h1 := bulk_pos' d
    have h2 := bulk_len' r
    simp only [Rows.uptoBulkAll, List.length_cons]
    omega
theorem bulk_mem' : ∀ (es : List (DataW H)) (x : DataW H), x ∈ es → Rows.uptoBulk x ≤ Rows.uptoBulkAll es
  | d :: r, x, h => by
    simp only [Rows.uptoBulkAll]
    rcases List.mem_cons.1 h with rfl | h
    · omega
    · have := bulk_mem' r x h; omega
theorem elems_len' (d : DataW H) : (dElems d).length ≤ Rows.uptoBulk d := by
  cases d with
  | slice es sp => have := bulk_len' es; simp only [dElems, Rows.uptoBulk]; omega
  | _ => simp [dElems]
theorem elems_mem' (d : DataW H) (x : DataW H) (h : x ∈ dElems d) : Rows.uptoBulk x ≤ Rows.uptoBulk d := by
  cases d with
  | slice es sp => have := bulk_mem' es x h; simp only [Rows.uptoBulk]; omega
  | _ => cases h
theorem func_small (d : DataW H) (h : Rows.uptoBulk d ≤ 2097152) : (toFunc d).small := by
  unfold toFunc
  split
  · rename_i l p r a b c
    simp only [Rows.uptoBulk, Rows.uptoBulkAll] at h
    have h1 := elems_len' p
    have h2 := elems_len' r
    have h3 := elems_len' c
    exact ⟨by simp only [List.length_map]; omega, by simp only [List.length_map]; omega, by simp only [List.length_map]; omega⟩
  · exact ⟨by simp, by simp, by simp⟩
theorem mod_small (d : DataW H) (h : Rows.uptoBulk d ≤ 2097152) : (toMod d).small := by
  unfold toMod
  split
  · rename_i g a c f
    simp only [Rows.uptoBulk, Rows.uptoBulkAll] at h
    have h1 := elems_len' g
    have h2 := elems_len' a
    have h3 := elems_len' c
    have h4 := elems_len' f
    refine ⟨by simp only [List.length_map]; omega, by simp only [List.length_map]; omega, by simp only [List.length_map]; omega, by simp only [List.length_map]; omega, fun x hx => ?_⟩
    obtain ⟨y, hy, rfl⟩ := List.mem_map.1 hx
    have := elems_mem' f y hy
    exact func_small y (by omega)
  · exact ⟨by simp, by simp, by simp, by simp, fun x hx => by cases hx⟩
end
end Go.Proofs.Ytdpdlmjlahehoaa
namespace Go.Proofs.Ytdpdlmjlahehoaa
open Go.ChangeShapes Go.WideShapes Go.ChangeAt Go.RowKit Go.Ab
theorem trimModules_own : ownKnob Try.prog.godebug = none := by kernel_rfl
theorem plain55t : Plain Try.prog 10 55 = true := by kernel_rfl
set_option maxRecDepth 100000 in
theorem trimModules_walk {H : Type} {enc : TypeId × Value → H} {W : World} {base : Nat} {v : Value} {d : DataW H} {ps : List MemPlace} (hval : Value.okWide Try.prog W .any base 55 v)
    (h : DataW.Trod enc Try.prog W 0 (fun _ => true) true 55 v d ps) (hb : Rows.uptoBulk d ≤ 1048576) :
    Calls Try.prog 9 #[v] W fun e w' => e = .returned (.bool true) ∧ Below W.heap.size W w' := by
  obtain ⟨fuel, hf⟩ := h
  have hr := read_ok (ρ := fun _ _ => none) fuel 55 _ _ hf 10 plain55t
  obtain ⟨c, e1, k1, -⟩ := mod_of (h := .leaf) hr.1
  have hv := packE_vr hr hval
  rw [e1] at hv
  exact run_ok prog_mixed tt_ok prog_ng kt_ok (trimModules_run zero_ok (mod_small d (by omega)) k1) (CR.sole hv)
set_option maxRecDepth 100000 in
theorem trimModules_contract (H : Type) (enc : TypeId × Value → H) (W : World) (base : Nat) (args : Array Value) (ds gs : List (DataW H)) (before : List MemPlace)
    (hval : ∀ (j : Nat) t v, Try.f9.params[j]? = some t → args[j]? = some v → Value.okWide Try.prog W .any base t v)
    (hW : DataW.Whole enc Try.prog Try.f9.params.toList Rows.trimModulesSpec.vars false W args.toList ds gs before) (hk : Rows.uptoSmall H (ds ++ gs) = true) :
    Calls Try.prog 9 args W fun e W' => ∃ v, e = .returned v ∧ Rows.trimModulesSpec.post enc Try.prog Try.f9 false true false false W args v W' := by
  have hW' := hW
  have hlt := hW.lt
  obtain ⟨p, q, hA0, hV, rfl, hfz, hnd⟩ := hW
  have hA : DataW.TrodAll enc Try.prog W 0 (fun _ => true) true Try.f9.params.toList args.toList ds p := hA0
  rw [Try.params9] at hA hval
  obtain ⟨v0, vs0, d0, ds0, p0, q0, hargs, rfl, rfl, h0, r0⟩ := trodAll_cons hA
  obtain ⟨rfl, rfl, rfl⟩ := trodAll_nil r0
  obtain rfl : args = #[v0] := by cases args; simp_all
  obtain ⟨rfl, rfl⟩ := trodVars_none hV
  clear hA0
  simp only [List.append_nil] at hW' hlt
  have hb := of_decide_eq_true hk
  simp only [List.append_nil, Rows.uptoBulkAll] at hb
  refine (trimModules_walk (hval 0 55 v0 rfl rfl) h0 (by omega)).mono fun e W' ⟨he, bel⟩ => ?_
  subst he
  exact ⟨_, rfl, _, _, _, [], _, [], hW', trodAll_mk1 (shut_bool Try.underlying4 _), trodAll_cons_mk (Below.trod (by kernel_rfl) (by kernel_rfl) (of_decide_eq_true (by kernel_rfl)) h0 bel (fun x hx => hlt x hx)) trodAll_mk0, rfl, bel.frame _, fun h => by cases h⟩
set_option maxRecDepth 100000 in
theorem trimModules_lifted (os : Os) (started : os.Started) (H : Type) (enc : TypeId × Value → H) (F : Stop.Interp) :
    ReturnsInHanded {} Try.checked os 9 .any ((Rows.OpenSpec.upto Rows.trimModulesSpec).pre6 enc Try.prog Try.f9 Rows.trimModulesUptoRow.domain false) (((Rows.OpenSpec.upto Rows.trimModulesSpec).at F).post enc Try.prog Try.f9 false true false false) := by
  refine returnsInHanded_of_cond (C := Try.checked) (s := Rows.OpenSpec.upto Rows.trimModulesSpec) (k := Rows.uptoSmall) rfl trimModules_own started (by kernel_rfl) Try.func9
    (OpenSpec.witness (enc := enc) (C := Try.checked) (s := Rows.OpenSpec.upto Rows.trimModulesSpec) (k := Rows.uptoSmall) rfl false ⟨#[], #[.agg #[.slice none 0 0, .slice none 0 0, .slice none 0 0, .slice none 0 0]], []⟩ 8 (by kernel_rfl) (by kernel_rfl) (by kernel_rfl)
      (x := ([.agg [.nil, .nil, .nil, .nil]], [], [])) (by kernel_rfl) rfl (by kernel_rfl)) ?_
  intro W base args ds gs before hval hW _ hk _
  exact trimModules_contract H enc W base args ds gs before hval hW hk
theorem trimModulesUpto_holds : Rows.TrimModulesUptoSaid :=
  OpenClaim.holds_of_cond 9 Try.f9 rfl rfl rfl rfl rfl rfl rfl ⟨rfl, rfl, rfl, rfl, rfl⟩ rfl rfl rfl rfl rfl (by kernel_rfl) Try.func9 (by kernel_rfl)
    (of_decide_eq_true (by kernel_rfl)) (by unfold Func.isWrapper; first | (rw [if_pos (by decide +kernel)]; kernel_rfl) | (rw [if_neg (by decide +kernel)]; exact ⟨rfl, rfl⟩))
    (fun os started H enc _ F => trimModules_lifted os started H enc F)
end Go.Proofs.Ytdpdlmjlahehoaa
