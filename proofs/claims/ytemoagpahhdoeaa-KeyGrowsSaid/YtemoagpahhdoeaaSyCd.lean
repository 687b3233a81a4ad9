/- Lists of the call's own: made, read, written, appended to. No condition. -/
import Derived.Test.YtemoagpahhdoeaaSyCc
namespace Go.Sy
set_option linter.unusedSimpArgs false
set_option linter.unusedVariables false

def celI (xs : List Value) (m : Nat) : Int := match xs[m]? with | some (.int _ n) => n | _ => 0
def celB (xs : List Value) (m : Nat) : Bool := match xs[m]? with | some (.bool b) => b | _ => false
def rdR (xs : List Value) (off : Nat) : List Value → Nat → List SC
  | [], _ => []
  | .int k _ :: r, j => .val (.int k (celI xs (off + j))) :: rdR xs off r (j + 1)
  | .bool _ :: r, j => .val (.bool (celB xs (off + j))) :: rdR xs off r (j + 1)
  | _ :: r, j => .val ((xs[off + j]?).getD undef) :: rdR xs off r (j + 1)
def cCells (xs : List Value) (off : Nat) (zs : List Value) : Prop := ∀ j c, (rdR xs off zs 0)[j]? = some c → ∃ v, c = .val v ∧ xs[off + j]? = some v
theorem rdR_len (xs : List Value) (off : Nat) : ∀ (zs : List Value) (j : Nat), (rdR xs off zs j).length = zs.length
  | [], j => rfl
  | z :: r, j => by cases z <;> simp [rdR, rdR_len xs off r (j + 1)]
def elOff (m : Int) (sz : Nat) : Nat := m.toNat * sz
/-- Cells are written anew from a place on. -/
def setV (xs : List Value) (off : Nat) (vs : List Value) : List Value := xs.take off ++ vs ++ xs.drop (off + vs.length)
def cFit (off m : Nat) (xs : List Value) : Prop := off + m ≤ xs.length
def cRoom (n by_ : Nat) : Prop := n * by_ ≤ 140737488355328

theorem allVal_ok {cs : List SC} {vs : List Value} (h : allVal cs = some vs) : cs = vs.map SC.val := by
  induction cs generalizing vs with
  | nil => cases h; rfl
  | cons c r ih =>
    cases c <;> simp only [allVal, reduceCtorEq] at h
    split at h
    · rename_i l hl
      cases h
      rw [ih hl]; rfl
    · cases h

theorem atom_row {F : Hp} {atm : Nat → Option Atom} {ρ : Env} {h : Nat → Hp} {w : World} {x : Nat} {e : TypeId} {sz n : Nat} {xs : List Value} (hs : HSat F atm ρ h w) (hx : atm x = some (.row e sz n xs)) :
    ∃ g c cur, ρ x = some (g, c) ∧ w.heap[g]? = some (.cells cur e (0, 0)) ∧ h x g = some (.cells cur e (0, 0)) ∧ xs.length = n * sz ∧ n ≤ c ∧ c ≤ maxLen ∧ cur.size = c * sz ∧ cur.toList.take (n * sz) = xs ∧ (∀ v ∈ xs, v.oneCell' = true) ∧
      (∀ m v, xs[m]? = some v → w.cell? ⟨g, m, none⟩ = some v) := by
  obtain ⟨g, c, cur, k1, k2, k3, k4, k5, k6, k7, k8⟩ := hs.sat x _ hx
  refine ⟨g, c, cur, k1, (hs.own x g _ k2).1, k2, k3, k4, k5, k6, k7, k8, fun m v hm => ?_⟩
  rw [cell_of_row w g m _ _ _ (hs.own x g _ k2).1]
  rw [← k7, List.getElem?_take] at hm
  split at hm
  · simpa using hm
  · cases hm

section
variable {C : Cx} {Q : Exit → Act → World → Prop} {S : FS SV Atom} {o : Oper} {e : Ev SV Atom} (hb : ∀ d, e.dst = some d → d < C.n)
include hb

theorem op_el_row {t et : TypeId} {i j : TI} {x ix : Operand} {k : IntKind} {y n : Nat} {m : Int} (ht : tiOf C.P t = some i) (hel : i.el = some et) (het : tiOf C.P et = some j) (ho : o.op = .indexAddr t x ix) (hd : o.dst = e.dst) (hw : e.wa = []) (hr : ∀ t ∈ tmpsOf [x, ix], t ∈ e.rs)
    (hx : opd S.get x = some (.e (.c (.sli y n)))) (hix : opd S.get ix = some (sval (.int k m))) (hc : cRow n m) (he : e.v = .e (.c (.ptr y (elOff m j.size)))) : OpOK C Q S o e := by
  refine opOK_pure hd hb hw (fun T a w ρ h h1 h2 h3 => ?_)
  obtain ⟨k1, k2⟩ := opd_den h1 hx (agree_opd h3 hr (by simp))
  obtain ⟨k3, _⟩ := opd_den h1 hix (agree_opd h3 hr (by simp))
  have k1' : a.eval x = .slice (some ⟨((ρ y).getD (0, 0)).1, 0, none⟩) n ((ρ y).getD (0, 0)).2 := k1
  have k3' : a.eval ix = .int k m := k3
  obtain ⟨d, inf, z, g1, g2, g3, g4, g5, g6, g7, g8, g9, g10, g11, g12, g13⟩ := ti_spec ht
  rw [hel] at g9
  cases d <;> simp only [tiEl, reduceCtorEq] at g9
  cases g9
  rw [he]
  refine ⟨?_, fun c hc => by simp [SE.cells] at hc; subst hc; exact k2 (.sli y n) (by simp [SE.cells])⟩
  simp [execOp, ho, Instr.indexAt, k1', k3', asIntOf, run_underlying g1, run_size het, hc.1, hc.2, addr_add, SV.den, SE.den, SC.den, adr, elOff]

theorem op_load_row {t te : TypeId} {i : TI} {a' : Operand} {x off sz n : Nat} {xs : List Value} (ht : tiOf C.P t = some i) (ho : o.op = .load t a') (hd : o.dst = e.dst) (hw : e.wa = []) (hr : ∀ t ∈ tmpsOf [a'], t ∈ e.rs) (hra : x ∈ e.ra) (ha : opd S.get a' = some (.e (.c (.ptr x off)))) (hx : S.atm x = some (.row te sz n xs))
    (hz : i.zero.length = i.size) (hc : cCells xs off i.zero) (hv : (i.agg = true ∧ e.v = .e (.agg (rdR xs off i.zero 0))) ∨ (i.agg = false ∧ ∃ u, rdR xs off i.zero 0 = [u] ∧ e.v = .e (.c u))) : OpOK C Q S o e := by
  refine opOK_pure hd hb hw (fun T a w ρ h k1 k2 k3 => ?_)
  have hx' : T.atm x = some (.row te sz n xs) := (k3.2.1 x hra).trans hx
  obtain ⟨p1, p2⟩ := opd_den k1 ha (agree_opd k3 hr (by simp))
  obtain ⟨g, c, cur, q1, q2, q2', q3, q4, q5, q6, q7, q8, q9⟩ := atom_row k2 hx'
  have p1' : a.eval a' = .pointer (some ⟨g, off, none⟩) := by rw [p1]; simp [SV.den, SE.den, SC.den, adr, q1]
  have hok : ∀ u ∈ rdR xs off i.zero 0, u.ok ρ := fun u hu => by
    obtain ⟨j, hj⟩ := List.getElem?_of_mem hu
    obtain ⟨v, rfl, _⟩ := hc j u hj
    trivial
  have hcell : ∀ j v, ((rdR xs off i.zero 0).map (SC.den ρ))[j]? = some v → w.cell? ((⟨g, off, none⟩ : Addr).add j) = some v := fun j v hj => by
    rw [List.getElem?_map] at hj
    obtain ⟨u, hu, hv⟩ := Option.map_eq_some_iff.1 hj
    obtain ⟨v', rfl, hF⟩ := hc j u hu
    cases hv
    rw [addr_add]
    exact q9 _ _ hF
  rcases hv with ⟨v1, v2⟩ | ⟨v1, u, v2, v3⟩
  · rw [v2]
    refine ⟨?_, hok⟩
    have := run_loadCells_list (P := C.P) w ⟨g, off, none⟩ _ hcell
    rw [List.length_map, rdR_len, hz] at this
    simp [execOp, ho, Instr.loadAt, Instr.sureAddr, p1', loadVar, run_isAgg ht, v1, run_size ht, this, SV.den, SE.den]
  · rw [v3]
    have hu := hok u (by rw [v2]; simp)
    refine ⟨?_, fun c' hc => by simp [SE.cells] at hc; subst hc; exact hu⟩
    have := hcell 0 (u.den ρ) (by rw [v2]; rfl)
    rw [addr_add, Nat.add_zero] at this
    simp [execOp, ho, Instr.loadAt, Instr.sureAddr, p1', loadVar, run_isAgg ht, v1, this, SV.den, SE.den]

/-- A list that is written out, of values alone. -/
theorem op_build_row {T : TT} (hT : TOK C.P T) {t et : TypeId} {i j : TI} {n x : Nat} {ps : Array (Nat × Operand)} {cs' : List SC} {vs : List Value} {z0 : List SC} (ht : tiOf C.P t = some i) (hel : i.el = some et) (het : tiOf C.P et = some j) (ho : o.op = .buildSlice t n ps) (hd : o.dst = e.dst) (hr : ∀ t ∈ tmpsOf (ps.toList.map (·.2)), t ∈ e.rs)
    (hx : S.atm x = none) (hbig : n * j.size ≤ 16777216) (hj : j.size ≠ 0) (hzl : j.zero.length = j.size) (hz0 : z0 = (List.range (n * j.size)).map (fun k => SC.val (j.zero.getD (k % j.size) undef))) (h1 : allOne z0 = true)
    (hf : fillS T (opd S.get) ((List.range n).map fun k => (k * j.size, et)) ps.toList z0 = some cs') (hvs : allVal cs' = some vs) (hw : e.wa = [(x, .row et j.size n vs)]) (he : e.v = .e (.c (.sli x n))) : OpOK C Q S o e := by
  refine op_build_slice hb hT ht hel het ho hd hr hx hbig hj hzl hz0 h1 hf (A := .row et j.size n vs) (fun ρ ρ' g hok hone hlen hext hg => ?_) hw he
  have hcs := allVal_ok hvs
  have hden : cs'.map (SC.den ρ) = vs := by
    rw [hcs, List.map_map]
    have : (SC.den ρ ∘ SC.val) = id := by funext v; rfl
    rw [this]; simp
  have hvl : vs.length = n * j.size := by rw [← hlen, hcs]; simp
  have hnm : n ≤ maxLen := by
    have h1 : n * 1 ≤ n * j.size := Nat.mul_le_mul_left n (by omega)
    unfold maxLen
    omega
  refine ⟨g, n, vs.toArray, hg, by simp [hden], hvl, Nat.le_refl _, hnm, by simp [hvl], by simp [← hvl], fun v hv => ?_⟩
  have := allOne_mem hone (c := .val v) (by rw [hcs]; exact List.mem_map.2 ⟨v, hv, rfl⟩)
  exact this

end

theorem setV_len {xs vs : List Value} {off : Nat} (h : off + vs.length ≤ xs.length) : (setV xs off vs).length = xs.length := by
  unfold setV
  simp
  omega
theorem setV_get {xs vs : List Value} {off : Nat} (h : off + vs.length ≤ xs.length) (m : Nat) : (setV xs off vs)[m]? = if off ≤ m ∧ m < off + vs.length then vs[m - off]? else xs[m]? := by
  unfold setV
  have hl : (xs.take off).length = off := by simp; omega
  rw [List.append_assoc]
  by_cases h1 : m < off
  · rw [List.getElem?_append_left (by omega), List.getElem?_take, if_pos h1, if_neg (by omega)]
  · rw [List.getElem?_append_right (by omega), hl]
    by_cases h2 : m < off + vs.length
    · rw [List.getElem?_append_left (by omega), if_pos (by omega)]
    · rw [List.getElem?_append_right (by omega), if_neg (by omega), List.getElem?_drop]
      congr 1; omega

/-- A store into a list of one's own. -/
theorem op_store_row {C : Cx} {Q : Exit → Act → World → Prop} {S : FS SV Atom} {o : Oper} {e : Ev SV Atom} {t te : TypeId} {i : TI} {a' v : Operand} {x off sz n : Nat} {xs vs : List Value} {u : SE} (ht : tiOf C.P t = some i) (ho : o.op = .store t a' v) (hd : o.dst = none) (hd' : e.dst = none)
    (hr : ∀ t ∈ tmpsOf [a', v], t ∈ e.rs) (ha : opd S.get a' = some (.e (.c (.ptr x off)))) (hv : opd S.get v = some (.e u)) (hx : S.atm x = some (.row te sz n xs)) (hvs : allVal u.cells = some vs) (hl : u.cells.length = i.size) (hc : cFit off i.size xs) (h1 : allOne u.cells = true)
    (hw : e.wa = [(x, .row te sz n (setV xs off vs))]) : OpOK C Q S o e := by
  refine opOK_skip hd hd' (fun T a w ρ h k1 k2 k3 k4 => ?_)
  have hx' : T.atm x = some (.row te sz n xs) := (k4.2.2 x (by simp [hw, ids])).trans hx
  obtain ⟨p1, p2⟩ := opd_den k1 ha (agree_opd k4 hr (by simp))
  obtain ⟨r1, r2⟩ := opd_den k1 hv (agree_opd k4 hr (by simp))
  have r1' : a.eval v = u.den ρ := r1
  obtain ⟨g, c, cur, q1, q2, q2', q3, q4, q5, q6, q7, q8, q9⟩ := atom_row k2 hx'
  have p1' : a.eval a' = .pointer (some ⟨g, off, none⟩) := by rw [p1]; simp [SV.den, SE.den, SC.den, adr, q1]
  have hcs := allVal_ok hvs
  have hden : u.cells.map (SC.den ρ) = vs := by
    rw [hcs, List.map_map]
    have : (SC.den ρ ∘ SC.val) = id := by funext v; rfl
    rw [this]; simp
  have hvl : vs.length = i.size := by rw [← hl, hcs]; simp
  unfold cFit at hc
  have hfit : off + vs.length ≤ xs.length := by omega
  have hxc : xs.length ≤ cur.size := by rw [q3, q6]; exact Nat.mul_le_mul_right _ q4
  have hone : ∀ v ∈ vs, v.oneCell' = true := fun v hv => allOne_mem h1 (c := .val v) (by rw [hcs]; exact List.mem_map.2 ⟨v, hv, rfl⟩)
  obtain ⟨cur', s1, s2, s3⟩ := setCells_row (g := g) vs off w _ q2 (by omega)
  obtain ⟨t1, t2, t3, t4⟩ := setCells_same g vs off w
  obtain ⟨h', hh'⟩ := hsat_turn (A := .row te sz n (setV xs off vs)) k2 q2' (by rw [hx']; simp) s1 (fun k hk => setCells_far _ _ k hk) ⟨g, c, cur', q1, by simp, (setV_len hfit).trans q3, q4, q5, s2.trans q6, by
    apply List.ext_getElem?
    intro m
    rw [List.getElem?_take, setV_get hfit]
    have : cur'.toList[m]? = cur'[m]? := by simp
    rw [this, s3 m]
    by_cases hm : m < n * sz
    · rw [if_pos hm]
      by_cases h2 : off ≤ m ∧ m < off + vs.length
      · rw [if_pos h2, if_pos h2]
      · rw [if_neg h2, if_neg h2]
        have := congrArg (·[m]?) q7
        simp only [List.getElem?_take, hm, if_true] at this
        simpa using this
    · rw [if_neg hm, if_neg (by omega)]
      rw [List.getElem?_eq_none (by omega)], fun v hv => by
    unfold setV at hv
    simp only [List.mem_append] at hv
    rcases hv with (hv | hv) | hv
    · exact q8 v (List.mem_of_mem_take hv)
    · exact hone v hv
    · exact q8 v (List.mem_of_mem_drop hv)⟩
  refine ⟨w.setCells g off vs, ρ, h', ?_, Ext.refl ρ, by rw [← hw] at hh'; exact hh', ⟨t1.trans k3.os, t2.trans k3.tape, t3.trans k3.output, by rw [t4]; exact k3.size⟩⟩
  have hst := run_storeCells_cells (P := C.P) g off vs 0 w (fun j hj => by
    rw [cell_of_row w _ _ _ _ _ q2]
    have : off + 0 + j < cur.size := by omega
    simp; omega) (fun j _ => by simp [World.frozen?, q2]) hone
  simp only [Nat.add_zero] at hst
  have hcl : (u.den ρ).cells = vs.toArray := by rw [den_cells h1 ρ, hden]
  simp [execOp, ho, Instr.storeAt, Instr.sureAddr, p1', r1', storeVar, run_size ht, hcl, hvl, hst]

/-- append, told by where the row lies then. -/
theorem run_append_at {P : Program} {w : World} (t ty e : TypeId) (i : TypeInfo) (z : Value) (ht : P.underlying t = some (.slice e)) (hi : P.info? e = some i) (hz : i.zero = some z) (hzs : z.cells.size = i.size) (hsz : 0 < i.size)
    {g n cap : Nat} {cur : Array Value} {xs : List Value} (hg : w.heap[g]? = some (.cells cur e (0, 0))) (hxl : xs.length = n * i.size) (hnc : n ≤ cap) (hcm : cap ≤ maxLen) (hcs : cur.size = cap * i.size) (htake : cur.toList.take (n * i.size) = xs)
    (a : Addr) (m c : Nat) (news : List Value) (hl : news.length = m * i.size) (hnews : ∀ j u, news[j]? = some u → w.cell? (a.add j) = some u) (h1 : ∀ u ∈ news, u.oneCell' = true) (hbytes : (n + m) * i.bytes ≤ 140737488355328) (hby : 0 < i.bytes) :
    ∃ g' cap' cur' w', (Builtin.append_ #[t, t] ty #[.slice (some ⟨g, 0, none⟩) n cap, .slice (some a) m c]).run P w = .ok (.slice (some ⟨g', 0, none⟩) (n + m) cap') w' ∧
      w'.heap[g']? = some (.cells cur' e (0, 0)) ∧ n + m ≤ cap' ∧ cap' ≤ maxLen ∧ cur'.size = cap' * i.size ∧ cur'.toList.take ((n + m) * i.size) = xs ++ news ∧ (g' = g ∨ g' = w.heap.size) ∧
      (∀ k o, w.heap[k]? = some o → k ≠ g → w'.heap[k]? = some o) ∧ w'.os = w.os ∧ w'.tape = w.tape ∧ w'.output = w.output ∧ w.heap.size ≤ w'.heap.size := by
  have hlen : (xs ++ news).length = (n + m) * i.size := by rw [List.length_append, hxl, hl, Nat.add_mul]
  have hnm : n + m ≤ 140737488355328 := Nat.le_trans (Nat.le_mul_of_pos_right _ hby) hbytes
  by_cases hroom : n + m ≤ cap
  · have hfit : n * i.size + news.length ≤ cur.size := by rw [hl, hcs, ← Nat.add_mul]; exact Nat.mul_le_mul_right _ hroom
    have hr := run_append_room (P := P) w t ty e i ht hi g n cap cur hg a m c news hl hnews h1 hroom hfit
    refine ⟨g, cap, _, _, hr, setRow_heap w g cur _ e _ hg, hroom, hcm, ?_, ?_, .inl rfl, fun k o hk hne => by rw [setRow_other w g k _ hne]; exact hk, rfl, rfl, rfl, by simp [World.setRow]⟩
    · simp only [List.size_toArray, List.length_append, List.length_take, List.length_drop, Array.length_toList]
      omega
    · rw [htake, ← hlen]
      exact List.take_left
  · have holds : ∀ j u, xs[j]? = some u → w.cell? ((⟨g, 0, none⟩ : Addr).add j) = some u := fun j u hj => by
      rw [addr_add, Nat.zero_add, cell_of_row w g j _ _ _ hg]
      rw [← htake, List.getElem?_take] at hj
      split at hj
      · simpa using hj
      · cases hj
    have h63 : n + m ≤ maxLen := by unfold maxLen; omega
    have hr := run_append_grow (P := P) w t ty e i z ht hi hz ⟨g, 0, none⟩ n cap xs hxl holds a m c news hl hnews (by omega) (by omega) (growslice_fits (by omega) hbytes)
    have hge := grownCap_ge w (n + m) cap e
    refine ⟨w.heap.size, _, _, _, hr, heap_alloc_at w.drew _, hge, grownCap_le_maxLen w (n + m) cap e h63, ?_, ?_, .inr rfl, fun k o hk _ => heap_alloc_lt w.drew _ hk, rfl, rfl, rfl, by simp⟩
    · simp only [Array.size_append, List.size_toArray, size_zeroCells, hzs, hxl, hl, ← Nat.add_mul]
      congr 1
      omega
    · simp only [Array.toList_append, List.append_assoc]
      rw [← List.append_assoc, ← hlen]
      exact List.take_left

section
variable {C : Cx} {Q : Exit → Act → World → Prop} {S : FS SV Atom} {o : Oper} {e : Ev SV Atom} (hb : ∀ d, e.dst = some d → d < C.n)
include hb
/-- append of a list of one's own to another one. -/
theorem op_append {t et : TypeId} {i j : TI} {s x : Operand} {y z n m id : Nat} {xs ys : List Value} {ats : Array TypeId} (hats : ats = #[t, t]) (ht : tiOf C.P t = some i) (hel : i.el = some et) (het : tiOf C.P et = some j) (ho : o.op = .call { callee := .builtin .append, args := #[s, x], argTypes := ats }) (hd : o.dst = e.dst) (hr : ∀ t ∈ tmpsOf [s, x], t ∈ e.rs)
    (hs : opd S.get s = some (.e (.c (.sli y n)))) (hx : opd S.get x = some (.e (.c (.sli z m)))) (hy : S.atm y = some (.row et j.size n xs)) (hz : S.atm z = some (.row et j.size m ys)) (hzra : z ∈ e.ra) (hyz : y ≠ z) (hid : S.atm id = none)
    (hzl : j.zero.length = j.size) (hj : 0 < j.size) (hby : 0 < j.byt) (hc : cRoom (n + m) j.byt) (hw : e.wa = [(id, .row et j.size (n + m) (xs ++ ys)), (y, .gone)]) (he : e.v = .e (.c (.sli id (n + m)))) : OpOK C Q S o e := by
  refine opOK_value hd hb (fun T a w ρ h k1 k2 k3 k4 => ?_)
  have hy' : T.atm y = some (.row et j.size n xs) := (k4.2.2 y (by simp [hw, ids])).trans hy
  have hz' : T.atm z = some (.row et j.size m ys) := (k4.2.1 z hzra).trans hz
  have hid' : T.atm id = none := (k4.2.2 id (by simp [hw, ids])).trans hid
  have hidy : id ≠ y := fun e => by rw [e, hy'] at hid'; cases hid'
  obtain ⟨p1, p2⟩ := opd_den k1 hs (agree_opd k4 hr (by simp))
  obtain ⟨r1, r2⟩ := opd_den k1 hx (agree_opd k4 hr (by simp))
  obtain ⟨g, c, cur, q1, q2, q2', q3, q4, q5, q6, q7, q8, q9⟩ := atom_row k2 hy'
  obtain ⟨g2, c2, cur2, u1, u2, u2', u3, u4, u5, u6, u7, u8, u9⟩ := atom_row k2 hz'
  have p1' : a.eval s = .slice (some ⟨g, 0, none⟩) n c := by rw [p1]; simp [SV.den, SE.den, SC.den, q1]
  have r1' : a.eval x = .slice (some ⟨g2, 0, none⟩) m c2 := by rw [r1]; simp [SV.den, SE.den, SC.den, u1]
  obtain ⟨d, inf, zv, g1, gg2, g3, g4, g5, g6, g7, g8, g9, g10, g11, g12, g13⟩ := ti_spec ht
  rw [hel] at g9
  cases d <;> simp only [tiEl, reduceCtorEq] at g9
  cases g9
  obtain ⟨d', inf', zv', f1, f2, f3, f4, f5, f6, f7, f8, f9, f10, f11, f12, f13⟩ := ti_spec het
  have hzs : zv'.cells.size = inf'.size := by rw [f3, ← hzl, ← f5, Array.length_toList]
  unfold cRoom at hc
  have hne : g2 ≠ g := fun e => by
    have := k2.apart y z g _ q2' hyz
    rw [← e, u2'] at this; cases this
  obtain ⟨g', cap', cur', w', a1, a2, a3, a4, a5, a6, a7, a8, a9, a10, a11, a12⟩ := run_append_at (P := C.P) (w := w) t o.type _ inf' zv' g1 f2 f4 hzs (by omega) q2 (by rw [q3, f3]) q4 q5 (by rw [q6, f3]) (by rw [f3]; exact q7)
    ⟨g2, 0, none⟩ m c2 ys (by rw [u3, f3]) (fun j' u hj' => by rw [addr_add, Nat.zero_add]; exact u9 j' u hj') u8 (by rw [f13]; exact hc) (by omega)
  have hρid := k2.new id hid'
  have hext : Ext ρ (fun v => if v = id then some (g', cap') else ρ v) := by
    intro v p hv
    have : v ≠ id := fun e => by rw [e, hρid] at hv; cases hv
    simp [this, hv]
  have hg'lt : g' = g ∨ w.heap.size ≤ g' := a7.imp (fun h => h) (fun h => by omega)
  have hsat := hsat_gen (wa := [(id, .row et j.size (n + m) (xs ++ ys)), (y, .gone)]) (hx := fun v k => if v = id ∧ k = g' then some (.cells cur' et (0, 0)) else none) (w' := w') k2 hext ?_ ?_ ?_ ?_ ?_
  · refine ⟨w', _, _, ?_, hext, ?_, by rw [← hw] at hsat; exact hsat, ⟨a9.trans k3.os, a10.trans k3.tape, a11.trans k3.output, Nat.le_trans k3.size a12⟩⟩
    · rw [he]
      have hden : (SV.e (SE.c (SC.sli id (n + m)))).den (fun v => if v = id then some (g', cap') else ρ v) = .slice (some ⟨g', 0, none⟩) (n + m) cap' := by simp [SV.den, SE.den, SC.den]
      rw [hden]
      simp only [execOp, ho, resolve, Sem.run_bind, Sem.run_pure, Result.andThen_ok, invoke, builtin]
      rw [hats]
      have : (#[s, x].map a.eval) = #[.slice (some ⟨g, 0, none⟩) n c, .slice (some ⟨g2, 0, none⟩) m c2] := by simp [p1', r1']
      rw [this, a1]
      rfl
    · rw [he]
      intro c' hc'
      simp [SE.cells] at hc'
      subst hc'
      simp [SC.ok]
  · intro v hv
    simp only [updA, lk_cons, lk_nil] at hv
    by_cases e1 : id = v
    · simp [e1] at hv
    · by_cases e2 : y = v
      · simp [e1, e2] at hv
      · simp only [e1, e2, if_false] at hv
        simp [show ¬ v = id from fun q => e1 q.symm, k2.new v hv]
  · intro v A hv
    rw [lk_cons, lk_cons, lk_nil] at hv
    split at hv
    · rename_i e1
      subst e1
      cases hv
      exact ⟨g', cap', cur', by simp, by simp, by rw [List.length_append, q3, u3, Nat.add_mul], a3, a4, by rw [a5, f3], by rw [← f3]; exact a6, fun v hv => (List.mem_append.1 hv).elim (q8 v) (u8 v)⟩
    · split at hv
      · cases hv; trivial
      · cases hv
  · intro v v' k o' hv hv' hk hne'
    by_cases e1 : v' = id
    · have : v ≠ id := fun q => hne' (q.trans e1.symm)
      simp [this] at hk
    · simp [e1]
  · intro v k o' hv hk
    by_cases e1 : v = id ∧ k = g'
    · simp only [e1, and_self, if_true, Option.some.injEq] at hk
      subst hk
      obtain ⟨rfl, rfl⟩ := e1
      refine ⟨a2, hg'lt.imp (fun h => ⟨y, by simp [ids], _, by rw [h]; exact q2'⟩) (fun h => h)⟩
    · simp [e1] at hk
  · intro k o' hk hno
    have : k ≠ g := fun e1 => by
      have := hno y (by simp [ids])
      rw [e1, q2'] at this; cases this
    exact a8 k o' hk this
end
section
variable {C : Cx} {Q : Exit → Act → World → Prop} {S : FS SV Atom} {o : Oper} {e : Ev SV Atom} (hb : ∀ d, e.dst = some d → d < C.n)
include hb
/-- make of a list of one-cell elements. -/
theorem op_make_row {t et : TypeId} {i j : TI} {a b : Operand} {k k' : IntKind} {m : Int} {x : Nat} {z : Value} (ht : tiOf C.P t = some i) (hel : i.el = some et) (het : tiOf C.P et = some j) (ho : o.op = .makeSlice t a b) (hd : o.dst = e.dst) (hr : ∀ t ∈ tmpsOf [a, b], t ∈ e.rs)
    (ha : opd S.get a = some (sval (.int k m))) (hb' : opd S.get b = some (sval (.int k' m))) (hx : S.atm x = none) (hj : j.size = 1) (hz : j.zero = [z]) (hone : z.oneCell' = true) (hc : 0 ≤ m ∧ (j.byt : Int) * m ≤ 281474976710656 ∧ m ≤ 1048576) (hw : e.wa = [(x, .row et j.size m.toNat (List.replicate m.toNat z))]) (he : e.v = .e (.c (.sli x m.toNat))) : OpOK C Q S o e := by
  refine opOK_value hd hb (fun T' a' w ρ h k1 k2 k3 k4 => ?_)
  have hx' : T'.atm x = none := (k4.2.2 x (by simp [hw, ids])).trans hx
  obtain ⟨p1, _⟩ := opd_den k1 ha (agree_opd k4 hr (by simp))
  obtain ⟨q1, _⟩ := opd_den k1 hb' (agree_opd k4 hr (by simp))
  have p1' : a'.eval a = .int k m := p1
  have q1' : a'.eval b = .int k' m := q1
  obtain ⟨d, inf, zz, g1, g2, g3, g4, g5, g6, g7, g8, g9, g10, g11, g12, g13⟩ := ti_spec ht
  rw [hel] at g9
  cases d <;> simp only [tiEl, reduceCtorEq] at g9
  cases g9
  obtain ⟨d', inf', zv, f1, f2, f3, f4, f5, f6, f7, f8, f9, f10, f11, f12, f13⟩ := ti_spec het
  have hsz : inf'.size = 1 := by rw [f3, hj]
  have hzc : zv.cells = #[z] := by
    apply Array.toList_inj.1
    rw [f5, hz]
  have hmade' : ∀ N : Nat, (madeCells zv.cells (N * inf'.size)).toList = List.replicate N z := fun N => by
    rw [hzc, hsz]
    apply List.ext_getElem?
    intro n
    simp [madeCells, List.getElem?_replicate]
    by_cases hn : n < N <;> simp [hn, Nat.mod_one]
  have hmade := hmade' m.toNat
  have hrun := run_makeSlice (P := C.P) w t _ inf' zv g1 f2 f4 k k' m m hc.1 (by omega) (by rw [hsz]; omega) (by rw [f13]; exact hc.2.1) (by omega)
  obtain ⟨ρ', h', n1, n2, n3⟩ := hsat_new (c := m.toNat) k2 hx' (A := .row et j.size m.toNat (List.replicate m.toNat z)) (o := .cells (madeCells zv.cells (m.toNat * inf'.size)) et) (fun ρ' hx hg => ⟨w.heap.size, m.toNat, madeCells zv.cells (m.toNat * inf'.size), hg, by simp, by rw [List.length_replicate, hj, Nat.mul_one], Nat.le_refl _, by unfold maxLen; omega, by rw [← Array.length_toList, hmade, List.length_replicate, hj, Nat.mul_one], by rw [hmade, List.take_of_length_le (by rw [List.length_replicate, hj]; omega)], fun v hv => by rw [List.mem_replicate] at hv; rw [hv.2]; exact hone⟩)
  refine ⟨_, ρ', h', ?_, n2, ?_, by rw [← hw] at n1; exact n1, strm_alloc k3 _⟩
  · have hden : (SV.e (SE.c (SC.sli x m.toNat))).den ρ' = .slice (some ⟨w.heap.size, 0, none⟩) m.toNat m.toNat := by simp [SV.den, SE.den, SC.den, n3]
    rw [he, hden]
    simp only [execOp, ho, p1', q1', Sem.run_bind, hrun, Result.andThen_ok, Sem.run_pure]
  · rw [he]
    intro c' hc'
    simp [SE.cells] at hc'
    subst hc'
    simp [SC.ok, n3]
end
end Go.Sy
