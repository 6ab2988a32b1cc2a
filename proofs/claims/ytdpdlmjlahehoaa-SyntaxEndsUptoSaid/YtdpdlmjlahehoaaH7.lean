/- Numbers, copy, drawn regions that write without reading. -/
import Derived.Test.YtdpdlmjlahehoaaH6
namespace Go.Ab
theorem wrapU64 {a : Int} (h1 : 0 ≤ a) (h2 : a < 18446744073709551616) : IntKind.u64.wrap a = a := by
  simp only [IntKind.wrap, IntKind.signed, IntKind.bits, Bool.false_and, Bool.false_eq_true, if_false, show (2 : Int) ^ 64 = 18446744073709551616 from rfl]
  omega
theorem flat_take {cs : List (List AV)} {sz : Nat} (h : ∀ c ∈ cs, c.length = sz) (k : Nat) : cs.flatten.take (k * sz) = (cs.take k).flatten := by
  induction cs generalizing k with
  | nil => simp
  | cons c cs ih =>
    cases k with
    | zero => simp
    | succ k =>
      have hc := h c (List.mem_cons_self ..)
      rw [List.flatten_cons, List.take_succ_cons, List.flatten_cons, Nat.succ_mul, Nat.add_comm, ← hc, List.take_length_add_append, hc, ih (fun x hx => h x (List.mem_cons_of_mem _ hx))]
theorem copy_core {s : St} {g j off sz len lo : Nat} {ex : Bool} {cs ns : List (List AV)} (hok : s.Ok) (hr : Row s.h sz (.slc g j off sz len lo ex) cs) (hn : ∀ c ∈ ns, c.length = sz ∧ c.all AV.leaf = true) (l n' : Nat) (hl : l + n' ≤ cs.length) :
    ∃ s', s.write g j (off + l * sz) (ns.flatten.take (min ns.length n' * sz)) = some s' ∧ Row s'.h sz (.slc g j off sz len lo ex) (cs.take l ++ ns.take (min ns.length n') ++ cs.drop (l + min ns.length n')) ∧ Keep [g] s s' ∧ s'.ctr = s.ctr := by
  obtain ⟨-, h2, rfl, h4, h5, rest, h6⟩ := hr
  have hk : min ns.length n' ≤ n' := Nat.min_le_right _ _
  have hk2 : min ns.length n' ≤ ns.length := Nat.min_le_left _ _
  generalize min ns.length n' = k at hk hk2 ⊢
  rw [flat_take (fun c hc => (hn c hc).1)]
  have hcl : ((ns.take k).flatten).length = k * sz := by
    rw [flat_len (sz := sz) fun c hc => (hn c (List.mem_of_mem_take hc)).1, List.length_take, Nat.min_eq_left hk2]
  have hb1 : l * sz + k * sz ≤ cs.length * sz := by rw [← Nat.add_mul]; exact Nat.mul_le_mul_right _ (by omega)
  have hb2 := Nat.mul_le_mul_right sz h4
  have hleaf : ((ns.take k).flatten).all AV.leaf = true := by
    rw [List.all_eq_true]
    intro x hx
    obtain ⟨c, hc, hxc⟩ := List.mem_flatten.1 hx
    exact List.all_eq_true.1 (hn c (List.mem_of_mem_take hc)).2 x hxc
  obtain ⟨s', e1, e2, e3, e4⟩ := write_over hok h6 (k := l * sz) (c := (ns.take k).flatten) (by omega) hleaf
  refine ⟨s', e1, ⟨rfl, h2, by simp; omega, h4, ?_, rest, ?_⟩, e3, e4⟩
  · intro c hc
    rcases List.mem_append.1 hc with hc | hc
    · rcases List.mem_append.1 hc with hc | hc
      · exact h5 c (List.mem_of_mem_take hc)
      · exact hn c (List.mem_of_mem_take hc)
    · exact h5 c (List.mem_of_mem_drop hc)
  · rw [e2]
    have hA : (cs.take l).flatten.length = l * sz := by
      rw [flat_len (sz := sz) fun c hc => (h5 c (List.mem_of_mem_take hc)).1, List.length_take, Nat.min_eq_left (by omega)]
    have hB : (cs.take (l + k)).flatten.length = l * sz + k * sz := by
      rw [flat_len (sz := sz) fun c hc => (h5 c (List.mem_of_mem_take hc)).1, List.length_take, Nat.min_eq_left (by omega), Nat.add_mul]
    have e5 : cs.flatten = (cs.take l).flatten ++ (cs.drop l).flatten := by rw [← List.flatten_append, List.take_append_drop]
    have e6 : cs.flatten = (cs.take (l + k)).flatten ++ (cs.drop (l + k)).flatten := by rw [← List.flatten_append, List.take_append_drop]
    have t1 : (cs.flatten ++ rest).take (l * sz) = (cs.take l).flatten := by rw [e5, List.append_assoc, ← hA, List.take_left]
    have t2 : (cs.flatten ++ rest).drop (l * sz + ((ns.take k).flatten).length) = (cs.drop (l + k)).flatten ++ rest := by rw [hcl, e6, List.append_assoc, ← hB, List.drop_left]
    unfold over
    rw [t1, t2]
    simp [List.append_assoc]
section
variable {P : Program} {T : Tab} {nt : Nat} {ops : Array Oper} {rest : List Oper} {m : Sy} {s : St} {Q : Sy → St → Prop} {d ty : Nat} {pos : String} {af : Array Edge} {g : Option (Nat × Bool)} {op : Op} {v : AV}
theorem op_bin {o : BinOp} {xt yt : TypeId} {x y : Operand} {a b v : AV} (hx : evY m x = some a) (hy : evY m y = some b) (h : binA T o xt a b = some v) : ∀ t, Has t nt m → evOp T (.binOp o xt x y yt) t s = some (.val v, s) := by
  intro t ht
  simp only [evOp, evY_ok ht hx, evY_ok ht hy, h]
theorem op_cv {a b : TypeId} {x : Operand} {i i' : TI} {k k' k'' : IntKind} {n r : Int} (hx : evY m x = some (.int k n)) (ha : T a = some i) (hb : T b = some i') (h1 : i.sh = .num k'') (h2 : i'.sh = .num k') (hr : k'.wrap n = r) :
    ∀ t, Has t nt m → evOp T (.convert a b x) t s = some (.val (.int k' r), s) := hr ▸ op_convert hx ha hb h1 h2
theorem w_store_rowF {tt : TypeId} {a x : Operand} {i : TI} {r u : AV} {n sz : Nat} {α : Type} {f : α → List AV} {xs : List α} {y : α} (hg : guardY ops m g = some true) (ha : evY m a = some (elemA r n)) (hx : evY m x = some u) (hT : T tt = some i) (hu : u.cells = f y) (hl : u.cells.length = i.size) (hsz : i.size = sz)
    (hz : u.cells.all AV.leaf = true) (hok : s.Ok) (hr : Row s.h sz r (xs.map f)) (hrg : r.gs ≠ []) (hn : n < xs.length)
    (k : ∀ s', Row s'.h sz r ((xs.set n y).map f) → Keep r.gs s s' → s'.ctr = s.ctr → W P T nt ops rest m s' Q) : W P T nt ops (⟨none, .store tt a x, ty, pos, af, g⟩ :: rest) m s Q :=
  w_store_row hg ha hx hT hl hsz hz hok hr hrg (by rwa [List.length_map]) fun s' h1 h2 h3 => k s' (by rw [hu, ← List.map_set] at h1; exact h1) h2 h3
/-- What a drawn region's next operation meets. -/
def St.join (s1 s : St) : St := { s1 with wr := s1.wr ++ s.wr }
theorem Keep.joined {X : List Nat} {s s1 : St} (h : Keep X s.bare s1) : Keep X s (s1.join s) := ⟨h.ok, h.ctr, h.keep, h.new⟩
theorem wdn_nil (h : Q m s) : WD P T nt ops [] m s (fun _ => False) Q := wd_nil h
theorem wdn_val (hr : ∀ t, Has t nt m → readsA t op = none) (hg : guardY ops m g = some true) (hd : Nat.ble (d + 1) nt = true) (h : ∀ t, Has t nt m → evOp T op t s.bare = some (.val v, s.bare)) (k : WD P T nt ops rest ((d, v) :: m) s (fun _ => False) Q) :
    WD P T nt ops (⟨some d, op, ty, pos, af, g⟩ :: rest) m s (fun _ => False) Q := wd_cons (fun t ht g hg => by rw [hr t ht] at hg; cases hg) (w1_val hg hd h ⟨fun _ _ h => h, k⟩)
theorem wdn_mem {s1 : St} (hr : ∀ t, Has t nt m → readsA t op = none) (hg : guardY ops m g = some true) (hd : Nat.ble (d + 1) nt = true) (h : ∀ t, Has t nt m → evOp T op t s.bare = some (.val v, s1)) (k : WD P T nt ops rest ((d, v) :: m) (s1.join s) (fun _ => False) Q) :
    WD P T nt ops (⟨some d, op, ty, pos, af, g⟩ :: rest) m s (fun _ => False) Q := wd_cons (fun t ht g hg => by rw [hr t ht] at hg; cases hg) (w1_val hg hd h ⟨fun _ _ h => h, k⟩)
theorem rd_slice {tt : TypeId} {x : Operand} {lo hi mx : Option Operand} {v : AV} (hx : evY m x = some v) (hv : ∀ g j o, v ≠ .ptr g j o) : ∀ t, Has t nt m → readsA t (.slice tt x lo hi mx) = none := by
  intro t ht
  simp only [readsA, evY_ok ht hx]
  cases v <;> first | rfl | exact absurd rfl (hv _ _ _)
/-- copy into a row (all of it, or from l on). -/
theorem op_copy {x y : Operand} {args : Array Operand} {tys : Array TypeId} {tt e : TypeId} {i ie : TI} {r dv b : AV} {cs ns : List (List AV)} {l n' sz : Nat} (h1 : args.toList = [x, y]) (h2 : tys.toList = [tt, tt]) (hx : evY m x = some dv) (hy : evY m y = some b) (hT : T tt = some i) (hs : i.sh = .slice e) (he : T e = some ie) (hz : ie.size = sz)
    (hdv : (dv = r ∧ l = 0 ∧ n' = cs.length) ∨ dv = cutA r l (l + n')) (hok : s.Ok) (hr : Row s.h sz r cs) (hrg : r.gs ≠ []) (hb : Row s.h sz b ns) (hl : l + n' ≤ cs.length) :
    ∃ s', (∀ t, Has t nt m → evOp T (.call ⟨.builtin .copy, args, tys⟩) t s = some (.val (.int .i64 (min ns.length n' : Nat)), s')) ∧ Row s'.h sz r (cs.take l ++ ns.take (min ns.length n') ++ cs.drop (l + min ns.length n')) ∧ Keep r.gs s s' ∧ s'.ctr = s.ctr := by
  obtain ⟨sh, size, bytes, zero, flat⟩ := i
  cases hs
  subst hz
  cases r with
  | slc g j off sz' len lo ex =>
    have hsz : sz' = ie.size ∧ ie.size ≠ 0 := ⟨hr.1, hr.2.1⟩
    obtain ⟨rfl, h0⟩ := hsz
    have hlen : len = cs.length := hr.2.2.1
    obtain ⟨s', e1, e2, e3, e4⟩ := copy_core hok hr hb.cells l n' hl
    refine ⟨s', fun t ht => ?_, e2, e3, e4⟩
    have hev : evsY m [x, y] = some [dv, b] := by simp only [evsY, hx, hy]
    have hdv' : ∃ len' lo' ex', dv = .slc g j (off + l * ie.size) ie.size len' lo' ex' ∧ len' = n' := by
      rcases hdv with ⟨rfl, rfl, rfl⟩ | rfl
      · exact ⟨_, _, _, by rw [Nat.zero_mul, Nat.add_zero], hlen⟩
      · exact ⟨_, _, _, rfl, by omega⟩
    obtain ⟨len', lo', ex', rfl, rfl⟩ := hdv'
    simp only [evOp, h1, h2, evsY_ok ht hev, callA, ne_eq, not_true_eq_false, if_false, hT, he, hb.slen, hb.elems, h0, not_false_eq_true, and_self, if_true, e1]
  | nils => exact (hrg rfl).elim
  | ro nl xs => exact (hrg rfl).elim
  | _ => exact hr.elim
end
end Go.Ab
