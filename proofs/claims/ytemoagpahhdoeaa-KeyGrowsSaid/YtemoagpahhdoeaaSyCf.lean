/- Big arrays of numbers: made, read, written, told as lists. No condition. -/
import Derived.Test.YtemoagpahhdoeaaSyCe
namespace Go.Sy
set_option linter.unusedSimpArgs false
set_option linter.unusedVariables false

def cArr (xs : List Value) (n : Nat) : Prop := xs.length = n ∧ ∀ v ∈ xs, v.oneCell' = true
def cLe (n : Nat) : Prop := n ≤ maxLen

section
variable {C : Cx} {Q : Exit → Act → World → Prop} {S : FS SV Atom} {o : Oper} {e : Ev SV Atom} (hb : ∀ d, e.dst = some d → d < C.n)
include hb

theorem op_alloc_big {t : TypeId} {i : TI} {x : Nat} (ht : tiOf C.P t = some i) (hbig : i.big = true) (ho : o.op = .alloc t) (hd : o.dst = e.dst) (hx : S.atm x = none) (hm : i.size ≤ 1048576)
    (hw : e.wa = [(x, .row t 1 i.size (List.replicate i.size (.int .i64 0)))]) (he : e.v = .e (.c (.ptr x 0))) : OpOK C Q S o e := by
  refine opOK_value hd hb (fun T a w ρ h k1 k2 k3 k4 => ?_)
  have hx' : T.atm x = none := (k4.2.2 x (by simp [hw, ids])).trans hx
  have hz0 := ti_big ht hbig
  obtain ⟨z, hz, hz'⟩ := run_zero ht w
  have hzl : z.cells.toList = List.replicate i.size (.int .i64 0) := hz'.trans hz0
  have hzs : z.cells.size = i.size := by rw [← Array.length_toList, hzl, List.length_replicate]
  obtain ⟨ρ', h', n1, n2, n3⟩ := hsat_new (c := i.size) k2 hx' (A := .row t 1 i.size (List.replicate i.size (.int .i64 0))) (o := .cells z.cells t) (fun ρ' hx hg => ⟨w.heap.size, i.size, z.cells, hg, by simp, by simp, Nat.le_refl _, by unfold maxLen; omega, by omega, by rw [hzl, List.take_of_length_le (by simp)], fun v hv => by rw [List.mem_replicate] at hv; rw [hv.2]; rfl⟩)
  refine ⟨_, ρ', h', ?_, n2, ?_, by rw [← hw] at n1; exact n1, strm_alloc k3 _⟩
  · rw [he]
    simp [execOp, ho, Instr.alloc, hz, newVar, newRow, SV.den, SE.den, SC.den, adr, n3]
  · rw [he]
    intro c hc
    simp [SE.cells] at hc
    subst hc
    simp [SC.ok, n3]

theorem op_box_arr {t : TypeId} {v : Operand} {xs : List Value} {n x : Nat} (ho : o.op = .box t v) (hd : o.dst = e.dst) (hr : ∀ t ∈ tmpsOf [v], t ∈ e.rs) (hv : opd S.get v = some (.e (.arr xs))) (hx : S.atm x = none) (hc : cArr xs n) (hm : n ≤ 1048576)
    (hw : e.wa = [(x, .row t 1 n xs)]) (he : e.v = .e (.c (.ptr x 0))) : OpOK C Q S o e := by
  refine opOK_value hd hb (fun T a w ρ h k1 k2 k3 k4 => ?_)
  have hx' : T.atm x = none := (k4.2.2 x (by simp [hw, ids])).trans hx
  obtain ⟨p1, p2⟩ := opd_den k1 hv (agree_opd k4 hr (by simp))
  have p1' : a.eval v = .agg xs.toArray := p1
  obtain ⟨c1, c2⟩ := hc
  obtain ⟨ρ', h', n1, n2, n3⟩ := hsat_new (c := n) k2 hx' (A := .row t 1 n xs) (o := .cells xs.toArray t) (fun ρ' hx hg => ⟨w.heap.size, n, xs.toArray, hg, by simp, by omega, Nat.le_refl _, by unfold maxLen; omega, by simp [c1], by rw [Nat.mul_one, ← c1]; simp, c2⟩)
  refine ⟨_, ρ', h', ?_, n2, ?_, by rw [← hw] at n1; exact n1, strm_alloc k3 _⟩
  · rw [he]
    have hden : (SV.e (SE.c (SC.ptr x 0))).den ρ' = .pointer (some ⟨w.heap.size, 0, none⟩) := by simp [SV.den, SE.den, SC.den, adr, n3]
    simp [execOp, ho, Instr.box, newVar, newRow, hden, p1', Value.cells]
  · rw [he]
    intro c hc
    simp [SE.cells] at hc
    subst hc
    simp [SC.ok, n3]

theorem op_load_whole {t te : TypeId} {i : TI} {a' : Operand} {x n : Nat} {xs : List Value} (ht : tiOf C.P t = some i) (hag : i.agg = true) (ho : o.op = .load t a') (hd : o.dst = e.dst) (hw : e.wa = []) (hr : ∀ t ∈ tmpsOf [a'], t ∈ e.rs) (hra : x ∈ e.ra) (ha : opd S.get a' = some (.e (.c (.ptr x 0)))) (hx : S.atm x = some (.row te 1 n xs))
    (hn : i.size = n) (he : e.v = .e (.arr xs)) : OpOK C Q S o e := by
  refine opOK_pure hd hb hw (fun T a w ρ h k1 k2 k3 => ?_)
  have hx' : T.atm x = some (.row te 1 n xs) := (k3.2.1 x hra).trans hx
  obtain ⟨p1, p2⟩ := opd_den k1 ha (agree_opd k3 hr (by simp))
  obtain ⟨g, c, cur, q1, q2, q2', q3, q4, q5, q6, q7, q8, q9⟩ := atom_row k2 hx'
  have p1' : a.eval a' = .pointer (some ⟨g, 0, none⟩) := by rw [p1]; simp [SV.den, SE.den, SC.den, adr, q1]
  have := run_loadCells_list (P := C.P) w ⟨g, 0, none⟩ xs (fun j v hj => by rw [addr_add, Nat.zero_add]; exact q9 j v hj)
  rw [show xs.length = i.size by omega] at this
  rw [he]
  refine ⟨?_, fun c hc => by simp [SE.cells] at hc; obtain ⟨v, _, rfl⟩ := hc; trivial⟩
  simp [execOp, ho, Instr.loadAt, Instr.sureAddr, p1', loadVar, run_isAgg ht, hag, run_size ht, this, SV.den, SE.den]

theorem op_el_sym {t et : TypeId} {i j : TI} {x ix : Operand} {k : IntKind} {m : Int} {y off n : Nat} (ht : tiOf C.P t = some i) (hn : i.arn = some (et, n)) (het : tiOf C.P et = some j) (ho : o.op = .indexAddr t x ix) (hd : o.dst = e.dst) (hw : e.wa = []) (hr : ∀ t ∈ tmpsOf [x, ix], t ∈ e.rs)
    (hx : opd S.get x = some (.e (.c (.ptr y off)))) (hix : opd S.get ix = some (sval (.int k m))) (hc : cRow n m) (he : e.v = .e (.c (.ptr y (off + elOff m j.size)))) : OpOK C Q S o e := by
  refine opOK_pure hd hb hw (fun T a w ρ h h1 h2 h3 => ?_)
  obtain ⟨k1, k2⟩ := opd_den h1 hx (agree_opd h3 hr (by simp))
  obtain ⟨k3, _⟩ := opd_den h1 hix (agree_opd h3 hr (by simp))
  have k1' : a.eval x = .pointer (some ⟨((ρ y).getD (0, 0)).1, off, none⟩) := k1
  have k3' : a.eval ix = .int k m := k3
  have g1 := ti_arn ht hn
  rw [he]
  refine ⟨?_, fun c hc => by simp [SE.cells] at hc; subst hc; exact k2 (.ptr y off) (by simp [SE.cells])⟩
  simp [execOp, ho, Instr.indexAt, k1', k3', asIntOf, run_underlying g1, Instr.sureAddr, run_size het, hc.1, hc.2, addr_add, SV.den, SE.den, SC.den, adr, elOff]
end

/-- A store of a whole array. -/
theorem op_store_whole {C : Cx} {Q : Exit → Act → World → Prop} {S : FS SV Atom} {o : Oper} {e : Ev SV Atom} {t te : TypeId} {i : TI} {a' v : Operand} {x n : Nat} {xs vs : List Value} (ht : tiOf C.P t = some i) (ho : o.op = .store t a' v) (hd : o.dst = none) (hd' : e.dst = none)
    (hr : ∀ t ∈ tmpsOf [a', v], t ∈ e.rs) (ha : opd S.get a' = some (.e (.c (.ptr x 0)))) (hv : opd S.get v = some (.e (.arr vs))) (hx : S.atm x = some (.row te 1 n xs)) (hn : i.size = n) (hc : cArr vs n)
    (hw : e.wa = [(x, .row te 1 n vs)]) : OpOK C Q S o e := by
  refine opOK_skip hd hd' (fun T a w ρ h k1 k2 k3 k4 => ?_)
  have hx' : T.atm x = some (.row te 1 n xs) := (k4.2.2 x (by simp [hw, ids])).trans hx
  obtain ⟨p1, p2⟩ := opd_den k1 ha (agree_opd k4 hr (by simp))
  obtain ⟨r1, r2⟩ := opd_den k1 hv (agree_opd k4 hr (by simp))
  have r1' : a.eval v = .agg vs.toArray := r1
  obtain ⟨g, c, cur, q1, q2, q2', q3, q4, q5, q6, q7, q8, q9⟩ := atom_row k2 hx'
  have p1' : a.eval a' = .pointer (some ⟨g, 0, none⟩) := by rw [p1]; simp [SV.den, SE.den, SC.den, adr, q1]
  obtain ⟨c1, c2⟩ := hc
  have hxc : vs.length ≤ cur.size := by omega
  obtain ⟨cur', s1, s2, s3⟩ := setCells_row (g := g) vs 0 w _ q2 (by omega)
  obtain ⟨t1, t2, t3, t4⟩ := setCells_same g vs 0 w
  obtain ⟨h', hh'⟩ := hsat_turn (A := .row te 1 n vs) k2 q2' (by rw [hx']; simp) s1 (fun k hk => setCells_far _ _ k hk) ⟨g, c, cur', q1, by simp, by omega, q4, q5, s2.trans q6, by
    apply List.ext_getElem?
    intro m
    rw [List.getElem?_take]
    have : cur'.toList[m]? = cur'[m]? := by simp
    rw [this, s3 m]
    by_cases hm : m < n * 1
    · rw [if_pos hm, if_pos (by omega)]
      simp
    · rw [if_neg hm]
      rw [List.getElem?_eq_none (by omega)], c2⟩
  refine ⟨w.setCells g 0 vs, ρ, h', ?_, Ext.refl ρ, by rw [← hw] at hh'; exact hh', ⟨t1.trans k3.os, t2.trans k3.tape, t3.trans k3.output, by rw [t4]; exact k3.size⟩⟩
  have hst := run_storeCells_cells (P := C.P) g 0 vs 0 w (fun j hj => by
    rw [cell_of_row w _ _ _ _ _ q2]
    have : 0 + 0 + j < cur.size := by omega
    simp; omega) (fun j _ => by simp [World.frozen?, q2]) c2
  simp only [Nat.add_zero] at hst
  simp [execOp, ho, Instr.storeAt, Instr.sureAddr, p1', r1', storeVar, run_size ht, Value.cells, c1, hn, hst]
end Go.Sy
