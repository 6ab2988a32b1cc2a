/- Rows of rows that are built by appending: what they hold stays as it was. -/
import Derived.Test.YtdpdlmjlahehoaaH5
namespace Go.Ab
/-- A place for groups: from a on, below b, none of X. -/
def Fr (a b : Nat) (X : List Nat) (g : Nat) : Prop := a ≤ g ∧ g < b ∧ g ∉ X
theorem Row.lt {s : St} {sz : Nat} {v : AV} {cs : List (List AV)} (k : Row s.h sz v cs) (hok : s.Ok) : ∀ g ∈ v.gs, g < s.ctr := by
  intro g hg
  obtain ⟨G, hG⟩ := k.has g hg
  rcases Nat.lt_or_ge g s.ctr with h | h
  · exact h
  · rw [hok g h] at hG; cases hG
theorem Row.leaf {h : Tr Grp} {sz : Nat} {v : AV} {cs : List (List AV)} (k : Row h sz v cs) : v.leaf = true := by
  cases v <;> first | rfl | exact k.elim
theorem Lent.leaf {α : Type} {h : Tr Grp} {sz : Nat} {f : α → List AV} {mk : List AV} {v : AV} {xs : List α} (k : Lent h sz f mk v xs) : v.leaf = true := k.row.leaf
theorem take_snoc {α : Type} {xs : List α} {i : Nat} {x : α} (h : xs[i]? = some x) : xs.take i ++ [x] = xs.take (i + 1) := by
  rw [List.take_add_one, h]; rfl
theorem RowR.keep0 {α : Type} {R : Tr Grp → α → List AV → Prop} (hR : ∀ {s s' : St} {x : α} {c : List AV}, R s.h x c → Keep [] s s' → R s'.h x c) {s s' : St} {sz : Nat} {v : AV} {xs : List α} (k : RowR s.h sz R v xs) (h : Keep [] s s') : RowR s'.h sz R v xs := by
  obtain ⟨css, hr, hl, hx⟩ := k
  exact ⟨css, hr.keep h fun g _ hg => (by cases hg), hl, fun i x c h1 h2 => hR (hx i x c h1 h2) h⟩
theorem Row.keep0 {s s' : St} {sz : Nat} {v : AV} {cs : List (List AV)} (k : Row s.h sz v cs) (h : Keep [] s s') : Row s'.h sz v cs := k.keep h fun g _ hg => (by cases hg)
abbrev RP (α : Type) := Tr Grp → (Nat → Prop) → α → List AV → Prop
structure Good {α : Type} (R : RP α) : Prop where
  keep : ∀ {Y : List Nat} {s s' : St} {F : Nat → Prop} {x : α} {c : List AV}, R s.h F x c → Keep Y s s' → (∀ g ∈ Y, ¬ F g) → R s'.h F x c
  mono : ∀ {h : Tr Grp} {F F' : Nat → Prop} {x : α} {c : List AV}, R h F x c → (∀ g, F g → F' g) → R h F' x c
def LentF {α : Type} (h : Tr Grp) (F : Nat → Prop) (sz : Nat) (f : α → List AV) (mk : List AV) (v : AV) (xs : List α) : Prop := Lent h sz f mk v xs ∧ ∀ g ∈ v.gs, F g
def LentRF {α : Type} (h : Tr Grp) (F : Nat → Prop) (sz : Nat) (R : RP α) (mk : List AV) (v : AV) (xs : List α) : Prop :=
  ∃ u css, v = cutA u 0 xs.length ∧ u.gs ≠ [] ∧ (∀ g ∈ u.gs, F g) ∧ Row h sz u (css ++ [mk]) ∧ css.length = xs.length ∧ ∀ (i : Nat) (x : α) (c : List AV), xs[i]? = some x → css[i]? = some c → R h F x c
section
variable {α : Type} {R : RP α} {c0 hi : Nat} {s s' : St} {sz : Nat} {f : AV} {xs : List α}
theorem LentF.keep {Y : List Nat} {F : Nat → Prop} {f : α → List AV} {mk : List AV} {v : AV} (k : LentF s.h F sz f mk v xs) (h : Keep Y s s') (hY : ∀ g ∈ Y, ¬ F g) : LentF s'.h F sz f mk v xs :=
  ⟨k.1.keep h fun g hg hy => hY g hy (k.2 g hg), k.2⟩
theorem LentF.mono {h : Tr Grp} {F F' : Nat → Prop} {f : α → List AV} {mk : List AV} {v : AV} (k : LentF h F sz f mk v xs) (hF : ∀ g, F g → F' g) : LentF h F' sz f mk v xs := ⟨k.1, fun g hg => hF g (k.2 g hg)⟩
theorem LentRF.keep (hG : Good R) {Y : List Nat} {F : Nat → Prop} {mk : List AV} {v : AV} (k : LentRF s.h F sz R mk v xs) (h : Keep Y s s') (hY : ∀ g ∈ Y, ¬ F g) : LentRF s'.h F sz R mk v xs := by
  obtain ⟨u, css, rfl, hu, hF, hr, hl, hx⟩ := k
  exact ⟨u, css, rfl, hu, hF, hr.keep h fun g hg hy => hY g hy (hF g hg), hl, fun i x c h1 h2 => hG.keep (hx i x c h1 h2) h hY⟩
theorem LentRF.mono (hG : Good R) {h : Tr Grp} {F F' : Nat → Prop} {mk : List AV} {v : AV} (k : LentRF h F sz R mk v xs) (hF : ∀ g, F g → F' g) : LentRF h F' sz R mk v xs := by
  obtain ⟨u, css, rfl, hu, hF1, hr, hl, hx⟩ := k
  exact ⟨u, css, rfl, hu, fun g hg => hF g (hF1 g hg), hr, hl, fun i x c h1 h2 => hG.mono (hx i x c h1 h2) hF⟩
theorem LentRF.to {R' : Tr Grp → α → List AV → Prop} {h : Tr Grp} {F : Nat → Prop} {mk : List AV} {v : AV} (k : LentRF h F sz R mk v xs) (hR : ∀ x c, R h F x c → R' h x c) : LentR h sz R' mk v xs := by
  obtain ⟨u, css, rfl, hu, hF, hr, hl, hx⟩ := k
  exact ⟨u, css, rfl, hu, hr, hl, fun i x c h1 h2 => hR _ _ (hx i x c h1 h2)⟩
/-- A row under construction. -/
def Bld (c0 hi : Nat) (s : St) (sz : Nat) (R : RP α) (f : AV) (xs : List α) : Prop :=
  ∃ css, Row s.h sz f css ∧ (f.gs = [] → f = .nils) ∧ (∀ g ∈ f.gs, c0 ≤ g ∧ g < hi) ∧ css.length = xs.length ∧ ∀ (i : Nat) (x : α) (c : List AV), xs[i]? = some x → css[i]? = some c → R s.h (Fr c0 hi f.gs) x c
theorem Bld.nil : Bld c0 hi s sz R .nils [] := ⟨[], rfl, fun _ => rfl, (fun g hg => by cases hg), rfl, (fun i x c h => by simp at h)⟩
theorem Bld.keep (hG : Good R) (k : Bld c0 hi s sz R f xs) {Y : List Nat} (h : Keep Y s s') (hY : ∀ g ∈ Y, hi ≤ g) : Bld c0 hi s' sz R f xs := by
  obtain ⟨css, hr, hn, hf, hl, hx⟩ := k
  exact ⟨css, hr.keep h fun g hg hy => by have := hY g hy; have := (hf g hg).2; omega, hn, hf, hl, fun i x c h1 h2 => hG.keep (hx i x c h1 h2) h fun g hg hF => by have := hY g hg; have := hF.2.1; omega⟩
theorem Bld.up (hG : Good R) (k : Bld c0 hi s sz R f xs) {hi' : Nat} (h : hi ≤ hi') : Bld c0 hi' s sz R f xs := by
  obtain ⟨css, hr, hn, hf, hl, hx⟩ := k
  exact ⟨css, hr, hn, fun g hg => ⟨(hf g hg).1, by have := (hf g hg).2; omega⟩, hl, fun i x c h1 h2 => hG.mono (hx i x c h1 h2) fun g hF => ⟨hF.1, by have := hF.2.1; omega, hF.2.2⟩⟩
theorem Bld.slen (k : Bld c0 hi s sz R f xs) : f.slen = some xs.length := by
  obtain ⟨css, hr, hn, hf, hl, hx⟩ := k
  rw [hr.slen, hl]
theorem Keep.below {X : List Nat} (h : Keep X s s') : s.ctr ≤ s'.ctr := h.ctr
section
variable {P : Program} {T : Tab} {nt : Nat} {ops : Array Oper} {rest : List Oper} {m : Sy} {Q : Sy → St → Prop} {d ty : Nat} {pos : String} {af : Array Edge} {g : Option (Nat × Bool)}
/-- One more element. -/
theorem w_app_bld (hG : Good R) {tt e : TypeId} {x y : Operand} {args : Array Operand} {tys : Array TypeId} {i ie : TI} {b : AV} {c : List AV} {z : α} (hg : guardY ops m g = some true) (hd : Nat.ble (d + 1) nt = true) (h1 : args.toList = [x, y]) (h2 : tys.toList = [tt, tt])
    (hx : evY m x = some f) (hy : evY m y = some b) (hT : T tt = some i) (hs : i.sh = .slice e) (he : T e = some ie) (h0 : ie.size ≠ 0) (hz : ie.size = sz) (hok : s.Ok) (hB : Bld c0 hi s sz R f xs) (hhi : hi ≤ s.ctr) (hc0 : c0 ≤ s.ctr) (hb : Row s.h sz b [c]) (hc : R s.h (Fr c0 s.ctr f.gs) z c)
    (hb1 : (xs.length + 1) * ie.bytes ≤ maxBytes) (hb2 : xs.length + 1 ≤ maxBytes)
    (k : ∀ v s', Bld c0 s'.ctr s' sz R v (xs ++ [z]) → Keep f.gs s s' → (v.gs = f.gs ∨ v.gs = [s.ctr]) → W P T nt ops rest ((d, v) :: m) s' Q) :
    W P T nt ops (⟨some d, .call ⟨.builtin .append, args, tys⟩, ty, pos, af, g⟩ :: rest) m s Q := by
  subst hz
  obtain ⟨css, hr, hn, hf, hl, hX⟩ := hB
  refine w_append hg hd h1 h2 hx hy hT hs he h0 hok hr hn hb (by rw [hl]; exact hb1) (by rw [hl]; exact hb2) ?_
  intro v s' hv hk hle hvg hvn hne
  have hctr : s.ctr < s'.ctr ∨ v.gs = f.gs := by
    rcases hvg with h | h
    · exact .inr h
    · left
      have := hv.has s.ctr (by rw [h]; exact List.mem_cons_self ..)
      obtain ⟨G, hG'⟩ := this
      rcases Nat.lt_or_ge s.ctr s'.ctr with h' | h'
      · exact h'
      · rw [hk.ok s.ctr h'] at hG'; cases hG'
  refine k v s' ⟨css ++ [c], hv, hvn, ?_, by simp [hl], ?_⟩ hk hvg
  · intro g hg'
    have := hk.ctr
    rcases hvg with h | h
    · rw [h] at hg'; have := hf g hg'; exact ⟨this.1, by omega⟩
    · rw [h] at hg'; rw [List.mem_singleton.1 hg']
      refine ⟨hc0, ?_⟩
      rcases hctr with h' | h'
      · exact h'
      · rw [h'] at h
        have := hf s.ctr (by rw [h]; exact List.mem_cons_self ..)
        omega
  · have hF : ∀ g, Fr c0 s.ctr f.gs g → Fr c0 s'.ctr v.gs g := by
      intro g ⟨k1, k2, k3⟩
      refine ⟨k1, by have := hk.ctr; omega, ?_⟩
      rcases hvg with h | h
      · rw [h]; exact k3
      · rw [h]; intro hm; rw [List.mem_singleton.1 hm] at k2; omega
    intro i x c' h1' h2'
    by_cases hi' : i < xs.length
    · rw [List.getElem?_append_left hi'] at h1'
      rw [List.getElem?_append_left (by omega)] at h2'
      have := hX i x c' h1' h2'
      have := hG.mono this (F' := Fr c0 s.ctr f.gs) fun g ⟨k1, k2, k3⟩ => ⟨k1, by omega, k3⟩
      exact hG.mono (hG.keep this hk fun g hg' hF' => hF'.2.2 hg') hF
    · have hlt := (List.getElem?_eq_some_iff.1 h1').1
      rw [List.length_append, List.length_singleton] at hlt
      have e : i = xs.length := by omega
      subst e
      rw [List.getElem?_append_right (Nat.le_refl _)] at h1'
      rw [List.getElem?_append_right (by omega)] at h2'
      simp at h1'
      rw [hl] at h2'
      simp at h2'
      subst h1' h2'
      exact hG.mono (hG.keep hc hk fun g hg' hF' => hF'.2.2 hg') hF
/-- The mark. -/
theorem w_app_mark (hG : Good R) {tt e : TypeId} {x y : Operand} {args : Array Operand} {tys : Array TypeId} {i ie : TI} {b : AV} {mk : List AV} (hg : guardY ops m g = some true) (hd : Nat.ble (d + 1) nt = true) (h1 : args.toList = [x, y]) (h2 : tys.toList = [tt, tt])
    (hx : evY m x = some f) (hy : evY m y = some b) (hT : T tt = some i) (hs : i.sh = .slice e) (he : T e = some ie) (h0 : ie.size ≠ 0) (hz : ie.size = sz) (hok : s.Ok) (hB : Bld c0 hi s sz R f xs) (hhi : hi ≤ s.ctr) (hc0 : c0 ≤ s.ctr) (hb : Row s.h sz b [mk])
    (hb1 : (xs.length + 1) * ie.bytes ≤ maxBytes) (hb2 : xs.length + 1 ≤ maxBytes)
    (k : ∀ v s' css, Row s'.h sz v (css ++ [mk]) → css.length = xs.length → LentRF s'.h (Fr c0 s'.ctr []) sz R mk (cutA v 0 xs.length) xs → Keep f.gs s s' → W P T nt ops rest ((d, v) :: m) s' Q) :
    W P T nt ops (⟨some d, .call ⟨.builtin .append, args, tys⟩, ty, pos, af, g⟩ :: rest) m s Q := by
  subst hz
  obtain ⟨css, hr, hn, hf, hl, hX⟩ := hB
  refine w_append hg hd h1 h2 hx hy hT hs he h0 hok hr hn hb (by rw [hl]; exact hb1) (by rw [hl]; exact hb2) ?_
  intro v s' hv hk hle hvg hvn hne
  refine k v s' css hv hl ⟨v, css, rfl, hne (by simp), ?_, hv, hl, ?_⟩ hk
  · intro g hg'
    obtain ⟨G, hG'⟩ := hv.has g hg'
    have hlt : g < s'.ctr := by
      rcases Nat.lt_or_ge g s'.ctr with h' | h'
      · exact h'
      · rw [hk.ok g h'] at hG'; cases hG'
    refine ⟨?_, hlt, fun h => by cases h⟩
    rcases hvg with h | h
    · rw [h] at hg'; exact (hf g hg').1
    · rw [h] at hg'; rw [List.mem_singleton.1 hg']; exact hc0
  · intro i x c' h1' h2'
    have := hX i x c' h1' h2'
    exact hG.mono (hG.keep this hk fun g hg' hF' => hF'.2.2 hg') fun g ⟨k1, k2, k3⟩ => ⟨k1, by have := hk.ctr; omega, fun h => by cases h⟩
end
end
end Go.Ab
