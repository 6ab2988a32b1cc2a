/- What operations that turn the abstract machine's memory do to rows and variables. -/
import Derived.Test.YtdpdlmjlahehoaaH2
namespace Go.Ab
theorem over_len {l : List AV} {k : Nat} {c : List AV} (h : k + c.length ≤ l.length) : (over l k c).length = l.length := by
  unfold over; simp; omega
theorem over_part (A B C : List AV) (k : Nat) (c : List AV) (h : k + c.length ≤ B.length) : over (A ++ B ++ C) (A.length + k) c = A ++ over B k c ++ C := by
  unfold over
  have h1 : (A ++ B ++ C).take (A.length + k) = A ++ B.take k := by
    rw [List.append_assoc, List.take_length_add_append, List.take_append_of_le_length (by omega)]
  have h2 : (A ++ B ++ C).drop (A.length + k + c.length) = B.drop (k + c.length) ++ C := by
    rw [List.append_assoc, Nat.add_assoc, List.drop_length_add_append, List.drop_append_of_le_length (by omega)]
  rw [h1, h2]
  simp [List.append_assoc]
theorem over_read {l : List AV} {off n k : Nat} {c : List AV} (h : off + n ≤ l.length) (hk : k + c.length ≤ n) : ((over l (off + k) c).drop off).take n = over ((l.drop off).take n) k c := by
  have e : l = l.take off ++ (l.drop off).take n ++ (l.drop off).drop n := by
    rw [List.append_assoc, List.take_append_drop, List.take_append_drop]
  have hA : (l.take off).length = off := by rw [List.length_take]; omega
  have hB : ((l.drop off).take n).length = n := by rw [List.length_take, List.length_drop]; omega
  generalize hAe : l.take off = A at *
  generalize hBe : (l.drop off).take n = B at *
  generalize hCe : (l.drop off).drop n = C at *
  have h3 : over l (off + k) c = A ++ over B k c ++ C := by
    conv => lhs; rw [e, ← hA]
    exact over_part A B C k c (by omega)
  rw [h3, ← hA, List.append_assoc, List.drop_left]
  have hov : (over B k c).length = n := by rw [over_len (by omega), hB]
  rw [List.take_append_of_le_length (by omega)]
  exact List.take_of_length_le (by omega)
theorem write_over {s : St} {g j off n k : Nat} {old c : List AV} (hok : s.Ok) (h : rdH s.h g j off n = some old) (hk : k + c.length ≤ n) (hl : c.all AV.leaf = true) :
    ∃ s', s.write g j (off + k) c = some s' ∧ rdH s'.h g j off n = some (over old k c) ∧ Keep [g] s s' ∧ s'.ctr = s.ctr := by
  obtain ⟨G, hG⟩ := rdH_has h
  have h' : G.read j off n = some old := by unfold rdH at h; rw [hG] at h; exact h
  obtain ⟨V, h1, h2, h3, h4⟩ := Grp.read_eq h'
  have hw : G.write j (off + k) c = some ⟨G.vers.mapIdx fun i U => if i = j then { V with cells := over V.cells (off + k) c } else U.poke (V.delta + (off + k)) c.length⟩ := by
    unfold Grp.write
    rw [h1]
    have : V.mp.isNone = true ∧ off + k + c.length ≤ V.cells.length := ⟨by rw [h2]; rfl, by omega⟩
    simp only [this, and_self, if_true]
  have hws : s.write g j (off + k) c = some (s.setG g ⟨G.vers.mapIdx fun i U => if i = j then { V with cells := over V.cells (off + k) c } else U.poke (V.delta + (off + k)) c.length⟩) := by
    unfold St.write; simp only [hl, if_true, St.get, hG, hw]
  refine ⟨_, hws, ?_, ⟨?_, Nat.le_refl _, ?_, ?_⟩, rfl⟩
  · unfold rdH
    simp only [St.setG, Tr.get_set, if_true]
    rw [Grp.read_mk (V := { V with cells := over V.cells (off + k) c }) (by simp [h1]) h2 (by simp only; rw [over_len (by omega)]; exact h3)]
    simp only
    rw [over_read h3 hk, h4]
  · intro g' hg'
    simp only [St.setG, Tr.get_set] at hg' ⊢
    split
    · rename_i e; subst e; rw [hok _ hg'] at hG; cases hG
    · exact hok g' hg'
  · intro g' hg' G' hG'
    simp only [St.setG, Tr.get_set]
    rw [if_neg (fun e => hg' (by rw [e]; exact List.mem_cons_self ..)), hG']
  · intro g' _ hn
    simp only [St.setG, Tr.get_set]
    split
    · rename_i e; subst e; rw [hn] at hG; cases hG
    · exact hn
/-- A new group. -/
theorem newG_keep {s : St} (hok : s.Ok) (G : Grp) : Keep [] s (s.newG G) ∧ Tr.get (s.newG G).h s.ctr = some G ∧ (s.newG G).ctr = s.ctr + 1 := by
  refine ⟨⟨fun g hg => ?_, Nat.le_succ _, fun g _ G' hG' => ?_, fun g hg hn => ?_⟩, ?_, rfl⟩
  · simp only [St.newG, Tr.get_set] at hg ⊢
    rw [if_neg (by omega)]
    exact hok g (by omega)
  · simp only [St.newG, Tr.get_set]
    split
    · rename_i e; subst e; rw [hok _ (Nat.le_refl _)] at hG'; cases hG'
    · exact hG'
  · simp only [St.newG, Tr.get_set]
    rw [if_neg (by omega)]; exact hn
  · simp only [St.newG, Tr.get_set, if_true]
theorem rd_new {s : St} {cs : List AV} (hok : s.Ok) : rdH (s.newG ⟨[⟨cs, 0, none⟩]⟩).h s.ctr 0 0 cs.length = some cs := by
  unfold rdH
  rw [(newG_keep hok _).2.1]
  exact (Grp.read_mk (V := ⟨cs, 0, none⟩) rfl rfl (by simp)).trans (by simp)

/-- Appending. -/
theorem app_row {s : St} {sz bytes : Nat} {a : AV} {cs ns : List (List AV)} (hok : s.Ok) (hsz : sz ≠ 0) (hr : Row s.h sz a cs) (hro : a.gs = [] → a = .nils) (hn : ∀ c ∈ ns, c.length = sz ∧ c.all AV.leaf = true)
    (hb : (cs.length + ns.length) * bytes ≤ maxBytes) (hb' : cs.length + ns.length ≤ maxBytes) :
    ∃ v s', s.app sz bytes a ns.length ns.flatten = some (v, s') ∧ Row s'.h sz v (cs ++ ns) ∧ Keep a.gs s s' ∧ s'.ctr ≤ s.ctr + 1 ∧ (v.gs = a.gs ∨ v.gs = [s.ctr]) ∧ (v.gs = [] → v = .nils) ∧ (ns ≠ [] → v.gs ≠ []) := by
  have hnl : ns.flatten.length = ns.length * sz := flat_len fun c hc => (hn c hc).1
  have hleaf : ns.flatten.all AV.leaf = true := by
    rw [List.all_eq_true]
    intro x hx
    obtain ⟨c, hc, hxc⟩ := List.mem_flatten.1 hx
    exact List.all_eq_true.1 (hn c hc).2 x hxc
  have hcells : ∀ c ∈ cs ++ ns, c.length = sz ∧ c.all AV.leaf = true := fun c hc => (List.mem_append.1 hc).elim (hr.cells c) (hn c)
  have hguard : ¬ (¬ ns.flatten.all AV.leaf = true ∨ sz = 0 ∨ ns.flatten.length ≠ ns.length * sz) := by
    rintro (h | h | h)
    · exact h hleaf
    · exact hsz h
    · exact h hnl
  have hnn : ns.length = 0 → ns = [] := fun h => List.eq_nil_of_length_eq_zero h
  unfold St.app
  rw [if_neg hguard]
  cases a with
  | nils =>
    cases hr
    simp only
    by_cases h0 : ns.length = 0
    · rw [if_pos h0]
      rw [hnn h0]
      exact ⟨_, _, rfl, rfl, Keep.refl hok, Nat.le_succ _, .inl rfl, fun _ => rfl, fun h => (h rfl).elim⟩
    · rw [if_neg h0, if_pos (by simp only [List.length_nil, Nat.zero_add] at hb hb'; exact ⟨hb, hb'⟩)]
      refine ⟨_, _, rfl, ⟨rfl, hsz, by simp, Nat.le_refl _, by simpa using hn, [], ?_⟩, (newG_keep hok _).1, Nat.le_refl _, .inr rfl, (fun h => by cases h), fun _ h => by cases h⟩
      rw [List.append_nil, List.nil_append, ← hnl]
      exact rd_new hok
  | ro nl xs => exact absurd (hro rfl) (by simp)
  | slc g j off sz' len lo ex =>
    have h6 := hr.rd
    obtain ⟨rfl, -, rfl, h4, h5, rest, h7⟩ := hr
    obtain ⟨G, hG⟩ := rdH_has h6
    have h' : G.read j off (cs.length * sz') = some cs.flatten := by unfold rdH at h6; rw [hG] at h6; exact h6
    obtain ⟨V, k1, k2, k3, k4⟩ := Grp.read_eq h'
    have hfl : cs.flatten.length = cs.length * sz' := flat_len fun c hc => (h5 c hc).1
    simp only [ne_eq, not_true_eq_false, if_false]
    by_cases hroom : cs.length + ns.length ≤ lo
    · rw [if_pos hroom]
      by_cases h0 : ns.length = 0
      · rw [if_pos h0]
        rw [hnn h0, List.append_nil]
        exact ⟨_, _, rfl, ⟨rfl, hsz, rfl, h4, h5, rest, h7⟩, (Keep.refl hok).more (fun g hg => by cases hg), Nat.le_succ _, .inl rfl, (fun h => by cases h), fun h => (h rfl).elim⟩
      · rw [if_neg h0]
        have hm : cs.length * sz' + ns.length * sz' ≤ lo * sz' := by rw [← Nat.add_mul]; exact Nat.mul_le_mul_right _ hroom
        obtain ⟨s', e1, e2, e3, e4⟩ := write_over hok h7 (k := cs.length * sz') (c := ns.flatten) (by omega) hleaf
        rw [e1]
        refine ⟨_, _, rfl, ⟨rfl, hsz, by simp, hroom, hcells, rest.drop (ns.length * sz'), ?_⟩, e3, by omega, .inl rfl, (fun h => by cases h), fun _ h => by cases h⟩
        rw [e2, flat_app]
        unfold over
        rw [List.take_append_of_le_length (by omega), List.take_of_length_le (by omega), ← hfl, hnl, List.drop_length_add_append]
    · rw [if_neg hroom, if_pos ⟨hb, hb'⟩]
      simp only [St.get, hG, h']
      cases ex with
      | true =>
        simp only [if_true]
        refine ⟨_, _, rfl, ⟨rfl, hsz, by simp, Nat.le_refl _, hcells, [], ?_⟩, (newG_keep hok _).1.more (fun g hg => by cases hg), Nat.le_refl _, .inr rfl, (fun h => by cases h), fun _ h => by cases h⟩
        rw [List.append_nil, flat_app]
        have : (cs.flatten ++ ns.flatten).length = (cs.length + ns.length) * sz' := by rw [List.length_append, hfl, hnl, Nat.add_mul]
        rw [← this]
        exact rd_new hok
      | false =>
        simp only [k1, Bool.false_eq_true, if_false]
        refine ⟨_, _, rfl, ⟨rfl, hsz, by simp, Nat.le_refl _, hcells, [], ?_⟩, ⟨?_, Nat.le_refl _, ?_, ?_⟩, Nat.le_succ _, .inl rfl, (fun h => by cases h), fun _ h => by cases h⟩
        · rw [List.append_nil, flat_app]
          have hlen : (cs.flatten ++ ns.flatten).length = (cs.length + ns.length) * sz' := by rw [List.length_append, hfl, hnl, Nat.add_mul]
          unfold rdH
          simp only [St.setG, Tr.get_set, if_true]
          rw [Grp.read_mk (V := ⟨cs.flatten ++ ns.flatten, V.delta + off, none⟩) (by simp) rfl (by simp only; omega)]
          simp only [List.drop_zero]
          rw [List.take_of_length_le (by omega)]
        · intro g' hg'
          simp only [St.setG, Tr.get_set] at hg' ⊢
          split
          · rename_i e; subst e; rw [hok _ hg'] at hG; cases hG
          · exact hok g' hg'
        · intro g' hg' G' hG'
          simp only [St.setG, Tr.get_set]
          rw [if_neg (fun e => hg' (by rw [e]; exact List.mem_cons_self ..)), hG']
        · intro g' _ hn
          simp only [St.setG, Tr.get_set]
          split
          · rename_i e; subst e; rw [hn] at hG; cases hG
          · exact hn
  | _ => exact hr.elim
end Go.Ab
