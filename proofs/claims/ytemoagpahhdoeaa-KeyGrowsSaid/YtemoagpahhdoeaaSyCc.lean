/- More operations as events, second part: comparisons of values, elements of arrays and lists, lists that are written out. No condition. -/
import Derived.Test.YtemoagpahhdoeaaSyCb
namespace Go.Sy
set_option linter.unusedSimpArgs false
set_option linter.unusedVariables false

def iconv (k : IntKind) (n : Int) : Int := k.wrap n
def bEq (a b : Bool) : Bool := a == b

theorem sval_ok (ρ : Env) (v : Value) : (sval v).ok ρ := fun c hc => by simp [SE.cells] at hc; subst hc; trivial
theorem sval_den (ρ : Env) (v : Value) : (sval v).den ρ = v := rfl

section
variable {C : Cx} {Q : Exit → Act → World → Prop} {S : FS SV Atom} {o : Oper} {e : Ev SV Atom} (hb : ∀ d, e.dst = some d → d < C.n)
include hb

/-- An operation that reckons out of one value. -/
theorem op_one {x : Operand} {v v' : Value} (hd : o.dst = e.dst) (hw : e.wa = []) (hr : ∀ t ∈ tmpsOf [x], t ∈ e.rs) (hx : opd S.get x = some (sval v)) (he : e.v = sval v') (hrun : ∀ (a : Act) w, a.eval x = v → (execOp a.eval o).run C.P w = .ok (.value v') w) : OpOK C Q S o e := by
  refine opOK_pure hd hb hw (fun T a w ρ h h1 h2 h3 => ?_)
  obtain ⟨k1, _⟩ := opd_den h1 hx (agree_opd h3 hr (by simp))
  rw [he]
  exact ⟨hrun a w k1, sval_ok ρ v'⟩
theorem op_two {x y : Operand} {u v v' : Value} (hd : o.dst = e.dst) (hw : e.wa = []) (hr : ∀ t ∈ tmpsOf [x, y], t ∈ e.rs) (hx : opd S.get x = some (sval u)) (hy : opd S.get y = some (sval v)) (he : e.v = sval v')
    (hrun : ∀ (a : Act) w, a.eval x = u → a.eval y = v → (execOp a.eval o).run C.P w = .ok (.value v') w) : OpOK C Q S o e := by
  refine opOK_pure hd hb hw (fun T a w ρ h h1 h2 h3 => ?_)
  obtain ⟨k1, _⟩ := opd_den h1 hx (agree_opd h3 hr (by simp))
  obtain ⟨k3, _⟩ := opd_den h1 hy (agree_opd h3 hr (by simp))
  rw [he]
  exact ⟨hrun a w k1 k3, sval_ok ρ v'⟩

theorem op_eq_bool {op : BinOp} {t yt : TypeId} {x y : Operand} {p q : Bool} {i : TI} (hop : op = .eql ∨ op = .neq) (hti : tiOf C.P t = some i) (hbl : i.bl = true) (ho : o.op = .binOp op t x y yt) (hd : o.dst = e.dst) (hw : e.wa = []) (hr : ∀ t ∈ tmpsOf [x, y], t ∈ e.rs)
    (hx : opd S.get x = some (sval (.bool p))) (hy : opd S.get y = some (sval (.bool q))) (he : e.v = sval (.bool (if op = .eql then bEq p q else !bEq p q))) : OpOK C Q S o e := by
  refine op_two hb hd hw hr hx hy he (fun a w h1 h2 => ?_)
  have ht : C.P.underlying t = some .bool := by
    obtain ⟨d, inf, z, g1, g2, g3, g4, g5, g6, g7, g8, g9, g10, g11, g12, g13⟩ := ti_spec hti
    rw [hbl] at g12
    cases d <;> simp only [tiBool, Bool.false_eq_true] at g12
    exact g1
  have hE : (Op.equal t (.bool p) (.bool q)).run C.P w = .ok (p == q) w := by
    unfold Op.equal Op.maxDepth
    exact run_equalIn_bool w _ t p q ht
  have hB1 : binOp .eql t (.bool p) (.bool q) = (do pure (.bool (← Op.equal t (.bool p) (.bool q)))) := rfl
  have hB2 : binOp .neq t (.bool p) (.bool q) = (do pure (.bool (!(← Op.equal t (.bool p) (.bool q))))) := rfl
  have hG : ∀ op, (eqGuard op t x y (.bool p) (.bool q)).run C.P w = .ok () w := fun op => by
    unfold eqGuard
    cases op <;> rfl
  rcases hop with rfl | rfl <;> simp only [execOp, ho, h1, h2, Sem.run_bind, hG, hB1, hB2, hE, Result.andThen_ok, Sem.run_pure] <;> simp [bEq]

theorem op_eq_agg {op : BinOp} {t yt : TypeId} {i : TI} {x y : Operand} {xs ys : List SC} {q : Bool} (hop : op = .eql ∨ op = .neq) (ht : tiOf C.P t = some i) (hi : i.eqk = true) (ho : o.op = .binOp op t x y yt) (hd : o.dst = e.dst) (hw : e.wa = []) (hr : ∀ t ∈ tmpsOf [x, y], t ∈ e.rs)
    (hx : opd S.get x = some (.e (.agg xs))) (hy : opd S.get y = some (.e (.agg ys))) (hq : eqInts xs ys = some q) (hl : i.flds.length = xs.length) (hl' : i.flds.length = ys.length) (he : e.v = sval (.bool (if op = .eql then q else !q))) : OpOK C Q S o e := by
  refine opOK_pure hd hb hw (fun T a w ρ h h1 h2 h3 => ?_)
  obtain ⟨k1, _⟩ := opd_den h1 hx (agree_opd h3 hr (by simp))
  obtain ⟨k3, _⟩ := opd_den h1 hy (agree_opd h3 hr (by simp))
  have k1' : a.eval x = .agg (xs.map (SC.den ρ)).toArray := k1
  have k3' : a.eval y = .agg (ys.map (SC.den ρ)).toArray := k3
  rw [he]
  refine ⟨?_, sval_ok ρ _⟩
  obtain ⟨d, inf, z, g1, g2, g3, g4, g5, g6, g7, g8, g9, g10, g11, g12, g13⟩ := ti_spec ht
  rw [hi] at g11
  cases d <;> simp only [tiEq, Bool.false_eq_true] at g11
  rename_i fs
  simp only [Bool.and_eq_true, Bool.not_eq_true', List.all_eq_true] at g11
  obtain ⟨⟨⟨f1, f2⟩, f3⟩, f4⟩ := g11
  have f2' := eq_of_beq f2
  simp only [tiFlds] at g7
  have hlen : fs.toList.length = xs.length := by rw [← hl, ← g7]; simp
  have hlen' : fs.toList.length = ys.length := by rw [← hl', ← g7]; simp
  have hfo : C.P.fieldsOf t = fs := by simp [Program.fieldsOf, g1]
  have hE : (Op.equal t (.agg (xs.map (SC.den ρ)).toArray) (.agg (ys.map (SC.den ρ)).toArray)).run C.P w = .ok q w := by
    unfold Op.equal Op.maxDepth
    rw [run_equalIn_struct w _ t _ _ (by rw [hfo]; exact g1) f3, hfo]
    exact run_eqFields w ρ _ fs.toList 0 xs ys q (fun f hf => f1 f hf) (by rw [f2']; simp) xs ys rfl rfl hq hlen hlen'
  have hG : (eqGuard op t x y (.agg (xs.map (SC.den ρ)).toArray) (.agg (ys.map (SC.den ρ)).toArray)).run C.P w = .ok () w := by
    unfold eqGuard
    rcases hop with rfl | rfl <;> simp [f4]
  rcases hop with rfl | rfl <;> simp [execOp, ho, k1', k3', hG, binOp, hE, sval_den]

theorem op_neg {t : TypeId} {x : Operand} {k : IntKind} {n : Int} (ho : o.op = .unOp .neg t x) (hd : o.dst = e.dst) (hw : e.wa = []) (hr : ∀ t ∈ tmpsOf [x], t ∈ e.rs) (hx : opd S.get x = some (sval (.int k n))) (he : e.v = sval (.int k (isub k 0 n))) : OpOK C Q S o e :=
  op_one hb hd hw hr hx he (fun a w h => by simp [execOp, ho, h, Op.unary, Op.intArith, isub])
theorem op_xor {t : TypeId} {x : Operand} {k : IntKind} {n : Int} (ho : o.op = .unOp .xor t x) (hd : o.dst = e.dst) (hw : e.wa = []) (hr : ∀ t ∈ tmpsOf [x], t ∈ e.rs) (hx : opd S.get x = some (sval (.int k n))) (he : e.v = sval (.int k (ixor k (if k.signed then -1 else k.max) n))) : OpOK C Q S o e :=
  op_one hb hd hw hr hx he (fun a w h => by simp [execOp, ho, h, Op.unary, Op.intBits, ixor])
theorem op_conv {s t : TypeId} {i j : TI} {x : Operand} {k k' : IntKind} {n : Int} (hs : tiOf C.P s = some j) (hsk : j.ik = some k') (ht : tiOf C.P t = some i) (hk : i.ik = some k) (ho : o.op = .convert s t x) (hd : o.dst = e.dst) (hw : e.wa = []) (hr : ∀ t ∈ tmpsOf [x], t ∈ e.rs) {k0 : IntKind} (hx : opd S.get x = some (sval (.int k0 n))) (he : e.v = sval (.int k (iconv k n))) : OpOK C Q S o e := by
  refine op_one hb hd hw hr hx he (fun a w h => ?_)
  obtain ⟨d, inf, z, g1, g2, g3, g4, g5, g6, g7, g8, g9, g10, g11, g12, g13⟩ := ti_spec ht
  obtain ⟨d', inf', z', g1', g2', g3', g4', g5', g6', g7', g8', g9', g10', g11', g12', g13'⟩ := ti_spec hs
  rw [hk] at g10
  rw [hsk] at g10'
  cases d <;> simp only [tiInt, reduceCtorEq] at g10
  cases d' <;> simp only [tiInt, reduceCtorEq] at g10'
  cases g10
  cases g10'
  simp [execOp, ho, h, convert, run_underlying g1, run_underlying g1', Conv.intToInt, iconv]
theorem op_nil {x : Operand} {v : SV} (hv : (∃ y off, v = .e (.c (.ptr y off))) ∨ ∃ A, v = sval (.pointer (some A))) (ho : o.op = .nilCheck x) (hd : o.dst = e.dst) (hw : e.wa = []) (hr : ∀ t ∈ tmpsOf [x], t ∈ e.rs) (hx : opd S.get x = some v) (he : e.v = v) : OpOK C Q S o e := by
  refine opOK_pure hd hb hw (fun T a w ρ h h1 h2 h3 => ?_)
  obtain ⟨k1, k2⟩ := opd_den h1 hx (agree_opd h3 hr (by simp))
  rw [he]
  refine ⟨?_, k2⟩
  rcases hv with ⟨y, off, rfl⟩ | ⟨A, rfl⟩
  · have k1' : a.eval x = .pointer (some ⟨((ρ y).getD (0, 0)).1, off, none⟩) := k1
    simp [execOp, ho, k1', SV.den, SE.den, SC.den, adr]
  · have k1' : a.eval x = .pointer (some A) := k1
    simp [execOp, ho, k1', sval_den]

/-- An element of an array in a block of one's own, at a number that is told. -/
theorem op_el_arr {t et : TypeId} {i : TI} {x ix : Operand} {k : IntKind} {m y off eo : Nat} (ht : tiOf C.P t = some i) (ho : o.op = .indexAddr t x ix) (hd : o.dst = e.dst) (hw : e.wa = []) (hr : ∀ t ∈ tmpsOf [x, ix], t ∈ e.rs)
    (hx : opd S.get x = some (.e (.c (.ptr y off)))) (hix : opd S.get ix = some (sval (.int k (.ofNat m)))) (hm : i.arr[m]? = some (eo, et)) (he : e.v = .e (.c (.ptr y (off + eo)))) : OpOK C Q S o e := by
  refine opOK_pure hd hb hw (fun T a w ρ h h1 h2 h3 => ?_)
  obtain ⟨k1, k2⟩ := opd_den h1 hx (agree_opd h3 hr (by simp))
  obtain ⟨k3, _⟩ := opd_den h1 hix (agree_opd h3 hr (by simp))
  have k1' : a.eval x = .pointer (some ⟨((ρ y).getD (0, 0)).1, off, none⟩) := k1
  have k3' : a.eval ix = .int k (.ofNat m) := k3
  obtain ⟨d, inf, z, g1, g2, g3, g4, g5, g6, g7, g8, g9, g10, g11, g12, g13⟩ := ti_spec ht
  rw [he]
  refine ⟨?_, fun c hc => by simp [SE.cells] at hc; subst hc; exact k2 (.ptr y off) (by simp [SE.cells])⟩
  cases d with
  | array n el =>
    simp only [tiArr] at g8
    cases hel : C.P.info? el with
    | none => rw [hel] at g8; rw [← g8] at hm; simp at hm
    | some j =>
      rw [hel] at g8
      simp only at g8
      rw [← g8, List.getElem?_map] at hm
      obtain ⟨m', hm1, hm2⟩ := Option.map_eq_some_iff.1 hm
      obtain ⟨hlt, hm3⟩ := List.getElem?_eq_some_iff.1 hm1
      simp at hlt hm3
      subst hm3
      cases hm2
      have hsz : (sizeOf et).run C.P w = .ok j.size w := by simp [sizeOf, typeInfo, hel]
      have hc : (0 : Int) ≤ Int.ofNat m ∧ (Int.ofNat m) < (n : Int) := ⟨Int.natCast_nonneg m, Int.ofNat_lt.2 hlt⟩
      have hc' : 0 ≤ (m : Int) ∧ (m : Int) < (n : Int) := hc
      simp [execOp, ho, Instr.indexAt, k1', k3', asIntOf, run_underlying g1, Instr.sureAddr, hsz, hlt, addr_add, SV.den, SE.den, SC.den, adr]
  | _ => simp only [tiArr] at g8; rw [← g8] at hm; simp at hm

/-- An element of an array that is a value. -/
theorem op_index {t et : TypeId} {i j : TI} {x ix : Operand} {k : IntKind} {m eo : Nat} {cs : List SC} (ht : tiOf C.P t = some i) (het : tiOf C.P et = some j) (ho : o.op = .index t x ix) (hd : o.dst = e.dst) (hw : e.wa = []) (hr : ∀ t ∈ tmpsOf [x, ix], t ∈ e.rs)
    (hx : opd S.get x = some (.e (.agg cs))) (hix : opd S.get ix = some (sval (.int k (.ofNat m)))) (hm : i.arr[m]? = some (eo, et)) (hv : (j.agg = true ∧ e.v = .e (.agg ((cs.drop eo).take j.size))) ∨ (j.agg = false ∧ ∃ c, cs[eo]? = some c ∧ e.v = .e (.c c))) : OpOK C Q S o e := by
  refine opOK_pure hd hb hw (fun T a w ρ h h1 h2 h3 => ?_)
  obtain ⟨k1, k2⟩ := opd_den h1 hx (agree_opd h3 hr (by simp))
  obtain ⟨k3, _⟩ := opd_den h1 hix (agree_opd h3 hr (by simp))
  have k1' : a.eval x = .agg (cs.map (SC.den ρ)).toArray := k1
  have k3' : a.eval ix = .int k (.ofNat m) := k3
  obtain ⟨d, inf, z, g1, g2, g3, g4, g5, g6, g7, g8, g9, g10, g11, g12, g13⟩ := ti_spec ht
  cases d with
  | array n el =>
    simp only [tiArr] at g8
    cases hel : C.P.info? el with
    | none => rw [hel] at g8; rw [← g8] at hm; simp at hm
    | some jj =>
      rw [hel] at g8
      simp only at g8
      rw [← g8, List.getElem?_map] at hm
      obtain ⟨m', hm1, hm2⟩ := Option.map_eq_some_iff.1 hm
      obtain ⟨hlt, hm3⟩ := List.getElem?_eq_some_iff.1 hm1
      simp at hlt hm3
      subst hm3
      cases hm2
      have hsz : (sizeOf et).run C.P w = .ok jj.size w := by simp [sizeOf, typeInfo, hel]
      rcases hv with ⟨v1, v2⟩ | ⟨v1, c, v2, v3⟩
      · rw [v2]
        refine ⟨?_, fun c hc => k2 c (List.mem_of_mem_drop (List.mem_of_mem_take hc))⟩
        simp [execOp, ho, Instr.index, k1', k3', asIntOf, run_underlying g1, hsz, hlt, part, run_isAgg het, v1, run_size het, SV.den, SE.den, drop_take_map]
      · rw [v3]
        refine ⟨?_, fun c' hc => by simp [SE.cells] at hc; subst hc; exact k2 _ (List.mem_of_getElem? v2)⟩
        simp [execOp, ho, Instr.index, k1', k3', asIntOf, run_underlying g1, hsz, hlt, part, run_isAgg het, v1, v2, SV.den, SE.den]
  | _ => simp only [tiArr] at g8; rw [← g8] at hm; simp at hm

/-- An element of a list that came in. -/
theorem op_el_ext {t et : TypeId} {i j : TI} {x ix : Operand} {k : IntKind} {A : Option Addr} {n c : Nat} {m : Int} (ht : tiOf C.P t = some i) (hel : i.el = some et) (het : tiOf C.P et = some j) (ho : o.op = .indexAddr t x ix) (hd : o.dst = e.dst) (hw : e.wa = []) (hr : ∀ t ∈ tmpsOf [x, ix], t ∈ e.rs)
    (hx : opd S.get x = some (sval (.slice A n c))) (hix : opd S.get ix = some (sval (.int k m))) (hc : cIdx A n m) (he : e.v = sval (.pointer (some (elAt A m j.size)))) : OpOK C Q S o e := by
  refine op_two hb hd hw hr hx hix he (fun a w h1 h2 => ?_)
  obtain ⟨d, inf, z, g1, g2, g3, g4, g5, g6, g7, g8, g9, g10, g11, g12, g13⟩ := ti_spec ht
  rw [hel] at g9
  cases d <;> simp only [tiEl, reduceCtorEq] at g9
  cases g9
  obtain ⟨c1, c2, c3⟩ := hc
  obtain ⟨ad, rfl⟩ := Option.isSome_iff_exists.1 c1
  simp [execOp, ho, Instr.indexAt, h1, h2, asIntOf, run_underlying g1, run_size het, c2, c3, elAt]

/-- What is read of memory that came in. -/
theorem op_load_ext {t : TypeId} {i : TI} {a' : Operand} {A : Addr} (ht : tiOf C.P t = some i) (ho : o.op = .load t a') (hd : o.dst = e.dst) (hw : e.wa = []) (hr : ∀ t ∈ tmpsOf [a'], t ∈ e.rs) (ha : opd S.get a' = some (sval (.pointer (some A)))) (hz : i.zero.length = i.size) (hc : cRead C.F A i.zero)
    (hv : (i.agg = true ∧ e.v = .e (.agg (rdT C.F A i.zero 0))) ∨ (i.agg = false ∧ ∃ u, rdT C.F A i.zero 0 = [u] ∧ e.v = .e (.c u))) : OpOK C Q S o e := by
  refine opOK_pure hd hb hw (fun T a w ρ h k1 k2 k3 => ?_)
  obtain ⟨p1, p2⟩ := opd_den k1 ha (agree_opd k3 hr (by simp))
  have p1' : a.eval a' = .pointer (some A) := p1
  have hok : ∀ u ∈ rdT C.F A i.zero 0, u.ok ρ := fun u hu => by
    obtain ⟨j, hj⟩ := List.getElem?_of_mem hu
    obtain ⟨v, rfl, _⟩ := hc j u hj
    trivial
  have hcell : ∀ j v, ((rdT C.F A i.zero 0).map (SC.den ρ))[j]? = some v → w.cell? (A.add j) = some v := fun j v hj => by
    rw [List.getElem?_map] at hj
    obtain ⟨u, hu, hv⟩ := Option.map_eq_some_iff.1 hj
    obtain ⟨v', rfl, hF⟩ := hc j u hu
    cases hv
    exact cell_of_F k2.fr hF
  rcases hv with ⟨v1, v2⟩ | ⟨v1, u, v2, v3⟩
  · rw [v2]
    refine ⟨?_, hok⟩
    have := run_loadCells_list (P := C.P) w A _ hcell
    rw [List.length_map, rdT_len, hz] at this
    simp [execOp, ho, Instr.loadAt, Instr.sureAddr, p1', loadVar, run_isAgg ht, v1, run_size ht, this, SV.den, SE.den]
  · rw [v3]
    have hu := hok u (by rw [v2]; simp)
    refine ⟨?_, fun c' hc => by simp [SE.cells] at hc; subst hc; exact hu⟩
    have := hcell 0 (u.den ρ) (by rw [v2]; rfl)
    have h0 : A.add 0 = A := by simp [Addr.add]
    rw [h0] at this
    simp [execOp, ho, Instr.loadAt, Instr.sureAddr, p1', loadVar, run_isAgg ht, v1, this, SV.den, SE.den]

theorem op_len {x : Operand} {ats : Array TypeId} {t : TypeId} {i : TI} {et : TypeId} {v : SV} {n : Nat} (hats : ats[0]? = some t) (ht : tiOf C.P t = some i) (hel : i.el = some et) (ho : o.op = .call { callee := .builtin .len, args := #[x], argTypes := ats }) (hd : o.dst = e.dst) (hw : e.wa = []) (hr : ∀ t ∈ tmpsOf [x], t ∈ e.rs)
    (hx : opd S.get x = some v) (hv : (∃ A c, v = sval (.slice A n c)) ∨ ∃ y, v = .e (.c (.sli y n))) (he : e.v = sval (.int .i64 n)) : OpOK C Q S o e := by
  refine opOK_pure hd hb hw (fun T a w ρ h h1 h2 h3 => ?_)
  obtain ⟨k1, _⟩ := opd_den h1 hx (agree_opd h3 hr (by simp))
  obtain ⟨A, c, hA⟩ : ∃ A c, a.eval x = .slice A n c := by
    rcases hv with ⟨A, c, rfl⟩ | ⟨y, rfl⟩
    · exact ⟨A, c, k1⟩
    · exact ⟨_, _, k1⟩
  obtain ⟨d, inf, z, g1, g2, g3, g4, g5, g6, g7, g8, g9, g10, g11, g12, g13⟩ := ti_spec ht
  rw [hel] at g9
  cases d <;> simp only [tiEl, reduceCtorEq] at g9
  rw [he]
  refine ⟨?_, sval_ok ρ _⟩
  simp [execOp, ho, resolve, invoke, builtin, hA, Builtin.len_, hats, run_underlying g1, goInt, sval_den]

/-- A list that is written out. -/
theorem op_build_slice {T : TT} (hT : TOK C.P T) {t et : TypeId} {i j : TI} {n x : Nat} {ps : Array (Nat × Operand)} {cs' : List SC} {z0 : List SC} (ht : tiOf C.P t = some i) (hel : i.el = some et) (het : tiOf C.P et = some j) (ho : o.op = .buildSlice t n ps) (hd : o.dst = e.dst) (hr : ∀ t ∈ tmpsOf (ps.toList.map (·.2)), t ∈ e.rs)
    (hx : S.atm x = none) (hbig : n * j.size ≤ 16777216) (hj : j.size ≠ 0) (hzl : j.zero.length = j.size) (hz0 : z0 = (List.range (n * j.size)).map (fun k => SC.val (j.zero.getD (k % j.size) undef))) (h1 : allOne z0 = true)
    (hf : fillS T (opd S.get) ((List.range n).map fun k => (k * j.size, et)) ps.toList z0 = some cs') {A : Atom} (hA : ∀ (ρ ρ' : Env) (g : Nat), (∀ c ∈ cs', c.ok ρ) → allOne cs' = true → cs'.length = n * j.size → Ext ρ ρ' → ρ' x = some (g, n) → A.sat ρ' x (fun k => if k = g then some (.cells (cs'.map (SC.den ρ)).toArray et (0, 0)) else none)) (hw : e.wa = [(x, A)]) (he : e.v = .e (.c (.sli x n))) : OpOK C Q S o e := by
  refine opOK_value hd hb (fun T' a w ρ h k1 k2 k3 k4 => ?_)
  have hx' : T'.atm x = none := (k4.2.2 x (by simp [hw, ids])).trans hx
  obtain ⟨d, inf, z, g1, g2, g3, g4, g5, g6, g7, g8, g9, g10, g11, g12, g13⟩ := ti_spec ht
  rw [hel] at g9
  cases d <;> simp only [tiEl, reduceCtorEq] at g9
  cases g9
  obtain ⟨zv, hz, hz'⟩ := run_zero het w
  have hops : ∀ p ∈ ps.toList, ∀ v, opd S.get p.2 = some v → a.eval p.2 = v.den ρ ∧ v.ok ρ := fun p hp v hv => opd_den k1 hv (agree_opd k4 hr (List.mem_map.2 ⟨p, hp, rfl⟩))
  have hzok : ∀ c ∈ z0, c.ok ρ := fun c hc => by rw [hz0] at hc; obtain ⟨v, _, rfl⟩ := List.mem_map.1 hc; trivial
  have hpl : ∀ (f fo : Nat) (ft : TypeId) (j' : TI), ((List.range n).map fun k => (k * j.size, et))[f]? = some (fo, ft) → tiOf C.P ft = some j' → (fun i => some (i * j.size, j.size)) f = some (fo, j'.size) := by
    intro f fo ft j' hfl hj'
    rw [List.getElem?_map] at hfl
    obtain ⟨fl, hfl1, hfl2⟩ := Option.map_eq_some_iff.1 hfl
    cases hfl2
    obtain ⟨hh1, hh2⟩ := List.getElem?_eq_some_iff.1 hfl1
    simp at hh2
    subst hh2
    rw [het] at hj'
    cases hj'
    rfl
  obtain ⟨q1, q2, q3, q4⟩ := fillS_ok hT (place := fun i => some (i * j.size, j.size)) hpl ps.toList _ _ hops hzok h1 hf
  have hzc : (z0.map (SC.den ρ)).toArray = (Array.range (n * j.size)).map (fun k => zv.cells[k % zv.cells.size]!) := by
    have hsz : zv.cells.size = j.size := by rw [← hzl, ← hz', Array.length_toList]
    apply Array.ext_getElem?
    intro m
    rw [hz0]
    simp only [List.map_map, List.getElem?_toArray, List.getElem?_map, Array.getElem?_map, Array.getElem?_range, hsz]
    by_cases hm : m < n * j.size
    · have hlt : m % j.size < zv.cells.size := by rw [hsz]; exact Nat.mod_lt _ (by omega)
      simp only [hm, List.getElem?_range, if_true, Option.map_some, Function.comp, SC.den, ← hz']
      simp [getElem!_pos, hlt]
    · simp [hm]
  have hz0l : z0.length = n * j.size := by rw [hz0]; simp
  obtain ⟨ρ', h', n1, n2, n3⟩ := hsat_new k2 hx' (fun ρ' hx hg => hA ρ ρ' w.heap.size q2 q3 (q4.trans hz0l) hx hg)
  refine ⟨_, ρ', h', ?_, n2, ?_, by rw [← hw] at n1; exact n1, strm_alloc k3 _⟩
  · have hnb : ¬ (n * j.size > 2 ^ 24) := by omega
    have hn0 : n * j.size = 0 ∨ n * j.size ≠ 0 := by omega
    have hden : (SV.e (SE.c (SC.sli x n))).den ρ' = .slice (some ⟨w.heap.size, 0, none⟩) n n := by simp [SV.den, SE.den, SC.den, n3]
    rw [he, hden]
    rw [hzc] at q1
    simp only [execOp, ho, Instr.buildSlice, Sem.run_bind, run_underlying g1, Result.andThen_ok, run_size het, Sem.run_ite, hnb, if_false, Sem.run_pure]
    by_cases hn : n * j.size = 0
    · rw [if_pos hn]
      have hn' : n = 0 := by
        rcases Nat.mul_eq_zero.1 hn with h | h
        · exact h
        · exact absurd h hj
      subst hn'
      simp only [Nat.zero_mul] at q1 ⊢
      have e1 : ∀ (f : Nat → Value), (Array.range 0).map f = #[] := fun f => by simp
      rw [e1] at q1
      simp only [Result.andThen_ok, e1, Array.toList_map]
      rw [q1]
      simp [newRow]
    · rw [if_neg hn]
      simp only [hz, Sem.run_bind, Result.andThen_ok, Sem.run_pure, Array.toList_map]
      rw [q1]
      simp [newRow]
  · rw [he]
    intro c hc
    simp [SE.cells] at hc
    subst hc
    simp [SC.ok, n3]

end
end Go.Sy
