/- Runs of laws with arguments; rows of what was read. -/
import Derived.Test.YtdpdlmjlahehoaaR1
import Derived.Test.YtdpdlmjlahehoaaH6
import Derived.WideShapes
namespace Go.Ab
open Go.WideShapes Go.RowKit
def St.zero : St := ⟨0, .leaf, []⟩
theorem zero_ok : St.zero.Ok := fun _ _ => rfl
theorem run_ok {P : Program} {T : Tab} (hm : P.follows .mixedOrders = true) (hT : TabOk P T) (hng : NoNG P) {f : FuncId} {args : List AV} {args' : Array Value} {w : World}
    (hc : CallS P T f args St.zero fun r _ => r = .bool true) (ha : CR w w.heap.size (fun _ _ => none) args args'.toList) : Calls P f args' w fun e w' => e = .returned (.bool true) ∧ Below w.heap.size w w' := by
  obtain ⟨N, v, s', rfl, hn⟩ := hc
  have hs : Sim w w.heap.size (fun _ _ => none) St.zero w :=
    { low := Below.refl _ _, big := Nat.le_refl _,
      ver := by intros; simp_all, al := by intros; simp_all, sep := by intros; simp_all, ctr := by intros; simp_all }
  refine ((call_sound (w0 := w) (B0 := w.heap.size) hm hT hng N f args _ _ _ (hn N (Nat.le_refl _))).2 _ w args' hs ha).mono fun e w' ⟨v', ρ', he, _, h2, h3⟩ => ?_
  cases h3
  exact ⟨he, h2.low⟩
section
variable {H : Type} {P : Program} {w : World} {ρ : Loc}
theorem packE_vr {r : Reach} {base n : Nat} {t : TypeId} {v : Value} {d : DataW H} (h : RdOk w P ρ n t v.cells.toList d) (hv : Value.okWide P w r base t v) : VR w w.heap.size ρ (packE d (avs d)) v := by
  obtain ⟨h1, h2, h3, h4⟩ := h
  cases n with
  | zero => exact h1.elim
  | succ n =>
    unfold HasTy at h1
    split at h1
    · rename_i hu
      obtain ⟨b, rfl⟩ := h1
      obtain ⟨b', rfl⟩ := okWide_bool hu hv
      simp only [avs, packE] at h3 ⊢
      exact h3.2 0 _ _ rfl rfl
    · rename_i hu
      obtain ⟨b, rfl, -⟩ := h1
      obtain ⟨b', rfl⟩ := okWide_int hu hv
      simp only [avs, packE] at h3 ⊢
      exact h3.2 0 _ _ rfl rfl
    · rename_i hu
      obtain ⟨b, rfl⟩ := h1
      obtain ⟨b', rfl⟩ := okWide_string hu hv
      simp only [avs, packE] at h3 ⊢
      exact h3.2 0 _ _ rfl rfl
    · rename_i hu
      obtain ⟨a, len, cap, rfl⟩ := okWide_slice hu hv
      rcases h1 with rfl | ⟨es, sp, rfl, -⟩
      · simp only [avs, packE] at h3 ⊢
        exact h3.2 0 _ _ rfl rfl
      · simp only [avs, packE] at h3 ⊢
        exact h3.2 0 _ _ rfl rfl
    · rename_i hu
      obtain ⟨arr, rfl, -⟩ := okWide_struct hu hv
      obtain ⟨ds, rfl, -⟩ := h1
      simp only [packE]
      have e : Value.cells (.agg arr) = arr := rfl
      rw [e] at h2 h3
      exact .agg _ arr (by simpa using h2) fun i u v hu hv => h3.2 i u v hu (by simpa using hv)
    · exact h1.elim
def dElems : DataW H → List (DataW H)
  | .slice es _ => es
  | _ => []
def dInt : DataW H → Int
  | .lit (.int _ n) => n
  | _ => 0
def dBool : DataW H → Bool
  | .lit (.bool b) => b
  | _ => false
def dStr : DataW H → ByteArray
  | .lit (.string bs) => ⟨bs.toArray⟩
  | _ => ByteArray.empty
theorem ty_int {n : Nat} {t : TypeId} {k : IntKind} {d : DataW H} (h : HasTy P n t d) (hu : P.underlying t = some (.int k)) : avs d = [.int k (dInt d)] ∧ (Lit.int k (dInt d)).wf = true := by
  cases n with
  | zero => exact h.elim
  | succ n =>
    unfold HasTy at h
    rw [hu] at h
    obtain ⟨m, rfl, hw⟩ := h
    exact ⟨by simp [avs, dInt], hw⟩
theorem ty_bool {n : Nat} {t : TypeId} {d : DataW H} (h : HasTy P n t d) (hu : P.underlying t = some .bool) : avs d = [.bool (dBool d)] := by
  cases n with
  | zero => exact h.elim
  | succ n =>
    unfold HasTy at h
    rw [hu] at h
    obtain ⟨m, rfl⟩ := h
    simp [avs, dBool]
theorem ty_str {n : Nat} {t : TypeId} {d : DataW H} (h : HasTy P n t d) (hu : P.underlying t = some .string) : avs d = [.str (dStr d)] := by
  cases n with
  | zero => exact h.elim
  | succ n =>
    unfold HasTy at h
    rw [hu] at h
    obtain ⟨m, rfl⟩ := h
    simp [avs, dStr]
theorem ty_slice {n : Nat} {t e : TypeId} {d : DataW H} (h : HasTy P n t d) (hu : P.underlying t = some (.slice e)) : ∃ m nl, avs d = [.ro nl (elts (dElems d))] ∧ packE d (avs d) = .ro nl (elts (dElems d)) ∧ ∀ x ∈ dElems d, HasTy P m e x := by
  cases n with
  | zero => exact h.elim
  | succ n =>
    unfold HasTy at h
    rw [hu] at h
    rcases h with rfl | ⟨es, sp, rfl, hx⟩
    · exact ⟨n, true, by simp [avs, dElems, elts], by simp [avs, dElems, elts, packE], fun x hx => by cases hx⟩
    · exact ⟨n, false, by simp [avs, dElems], by simp [avs, dElems, packE], hx⟩
theorem ty_struct {n : Nat} {t : TypeId} {fs : Array Field} {d : DataW H} (h : HasTy P n t d) (hu : P.underlying t = some (.struct fs)) : ∃ m ds, d = .agg ds ∧ ds.length = fs.toList.length ∧ ∀ (i : Nat) (f : Field) (x : DataW H), fs.toList[i]? = some f → ds[i]? = some x → HasTy P m f.type x := by
  cases n with
  | zero => exact h.elim
  | succ n =>
    unfold HasTy at h
    rw [hu] at h
    obtain ⟨ds, h1, h2, h3⟩ := h
    exact ⟨n, ds, h1, h2, h3⟩
theorem row_elts {h : Tr Grp} {sz m : Nat} {e : TypeId} {nl : Bool} {es : List (DataW H)} (ht : ∀ x ∈ es, HasTy P m e x) (hc : ∀ x ∈ es, (avs x).length = sz ∧ (avs x).all AV.leaf = true) : Row h sz (.ro nl (elts es)) (es.map avs) := by
  refine ⟨?_, ?_⟩
  · rw [elts_map, List.map_map]
    exact List.map_congr_left fun x hx => (ht x hx).pack
  · intro c hc'
    obtain ⟨x, hx, rfl⟩ := List.mem_map.1 hc'
    exact hc x hx
/-- A row of flat elements. -/
theorem rowF_elts {h : Tr Grp} {sz m : Nat} {e : TypeId} {nl : Bool} {es : List (DataW H)} {α : Type} {f : DataW H → α} {c : α → List AV} (ht : ∀ x ∈ es, HasTy P m e x) (hx : ∀ x ∈ es, avs x = c (f x)) (hc : ∀ a, (c a).length = sz ∧ (c a).all AV.leaf = true) : Row h sz (.ro nl (elts es)) ((es.map f).map c) := by
  have := row_elts (h := h) (sz := sz) (nl := nl) ht fun x hx' => by rw [hx x hx']; exact hc _
  rw [List.map_map]
  rw [show es.map (c ∘ f) = es.map avs from List.map_congr_left fun x hx' => (hx x hx').symm]
  exact this
/-- A row of rows. -/
theorem rowR_elts {h : Tr Grp} {sz m : Nat} {e : TypeId} {nl : Bool} {es : List (DataW H)} {α : Type} {f : DataW H → α} {R : Tr Grp → α → List AV → Prop} (ht : ∀ x ∈ es, HasTy P m e x) (hx : ∀ x ∈ es, R h (f x) (avs x)) (hc : ∀ x ∈ es, (avs x).length = sz ∧ (avs x).all AV.leaf = true) : RowR h sz R (.ro nl (elts es)) (es.map f) := by
  refine ⟨_, row_elts ht hc, by simp, fun i a c h1 h2 => ?_⟩
  rw [List.getElem?_map] at h1 h2
  cases hy : es[i]? with
  | none => rw [hy] at h1; cases h1
  | some y =>
    rw [hy] at h1 h2
    cases h1
    cases h2
    exact hx y (List.mem_of_getElem? hy)
end
end Go.Ab
