/- More operations as events, third part: maps from whole numbers to Bools; fields of what came in; a list that came in, appended. No condition. -/
import Derived.Test.YtemoagpahhdoeaaSyCd
import Derived.MapKept
namespace Go.Sy
set_option linter.unusedSimpArgs false
set_option linter.unusedVariables false

/-! ### Maps -/
def mlk : List (Int × Bool) → Int → Bool
  | [], _ => false
  | p :: r, n => if p.1 = n then p.2 else mlk r n
def mput : List (Int × Bool) → Int → Bool → List (Int × Bool)
  | [], n, b => [(n, b)]
  | p :: r, n, b => if p.1 = n then (n, b) :: r else p :: mput r n b
theorem mlk_mput (m : List (Int × Bool)) (n : Int) (b : Bool) (j : Int) : mlk (mput m n b) j = if n = j then b else mlk m j := by
  induction m with
  | nil => simp [mput, mlk]
  | cons p r ih =>
    simp only [mput]
    split
    · rename_i h
      simp only [mlk]
      by_cases e : n = j
      · simp [e]
      · simp [e, h]
    · rename_i h
      simp only [mlk, ih]
      by_cases e : n = j
      · subst e; simp [h]
      · simp [e]

def enF (p : Int × Bool) (k : IntKind) : Value × Value := (.int k p.1, .bool p.2)
theorem find_spec (k : IntKind) (n : Int) : ∀ (l : List MapEntry) (m : List (Int × Bool)) (i : Nat), l.map (fun e => (e.key, e.val)) = m.map (fun p => (Value.int k p.1, Value.bool p.2)) →
    (Instr.findNow (.int k) (.int k n) l i = some none ∧ mlk m n = false ∧ ∀ b, mput m n b = m ++ [(n, b)]) ∨
    ∃ j e, Instr.findNow (.int k) (.int k n) l i = some (some (i + j, e.val)) ∧ l[j]? = some e ∧ e.key = .int k n ∧ e.val = .bool (mlk m n) ∧ ∀ b, mput m n b = m.set j (n, b)
  | [], m, i, h => by
    have : m = [] := by cases m <;> simp at h ⊢
    subst this
    exact .inl ⟨rfl, rfl, fun b => rfl⟩
  | e :: l, [], i, h => by simp at h
  | e :: l, p :: m, i, h => by
    simp only [List.map_cons, List.cons.injEq, Prod.mk.injEq] at h
    obtain ⟨⟨h1, h2⟩, h3⟩ := h
    have hs : Instr.sameNow (.int k) (.int k n) e.key = some (n == p.1) := by rw [h1]; simp [Instr.sameNow]
    by_cases hn : p.1 = n
    · refine .inr ⟨0, e, ?_, rfl, by rw [h1, hn], by rw [h2]; simp [mlk, hn], fun b => by simp [mput, hn]⟩
      have : (n == p.1) = true := by simp [hn]
      simp [Instr.findNow, hs, this]
    · have hb : (n == p.1) = false := by simp; exact fun q => hn q.symm
      rcases find_spec k n l m (i + 1) h3 with ⟨g1, g2, g3⟩ | ⟨j, e', g1, g2, g3, g4, g5⟩
      · exact .inl ⟨by simp [Instr.findNow, hs, hb, g1], by simp [mlk, hn, g2], fun b => by simp [mput, hn, g3]⟩
      · exact .inr ⟨j + 1, e', by simp [Instr.findNow, hs, hb, g1]; omega, by simpa using g2, g3, by simp [mlk, hn, g4], fun b => by simp [mput, hn, g5]⟩

theorem atom_mpb {F : Hp} {atm : Nat → Option Atom} {ρ : Env} {h : Nat → Hp} {w : World} {x : Nat} {k : IntKind} {m : List (Int × Bool)} (hs : HSat F atm ρ h w) (hx : atm x = some (.mpb k m)) :
    ∃ g c es cl, ρ x = some (g, c) ∧ w.heap[g]? = some (.map es cl) ∧ h x g = some (.map es cl) ∧ es.toList.map (fun e => (e.key, e.val)) = m.map fun p => (Value.int k p.1, Value.bool p.2) := by
  obtain ⟨g, c, es, cl, k1, k2, k3⟩ := hs.sat x _ hx
  exact ⟨g, c, es, cl, k1, (hs.own x g _ k2).1, k2, k3⟩

theorem keys_int {k : IntKind} {l : List MapEntry} {m : List (Int × Bool)} (h : l.map (fun e => (e.key, e.val)) = m.map fun p => (Value.int k p.1, Value.bool p.2)) : ∀ x ∈ l, MapKept.IsKey (.int k) x.key := by
  intro x hx
  have : (x.key, x.val) ∈ l.map (fun e => (e.key, e.val)) := List.mem_map.2 ⟨x, hx, rfl⟩
  rw [h] at this
  obtain ⟨p, _, hp⟩ := List.mem_map.1 this
  simp only [Prod.mk.injEq] at hp
  rw [← hp.1]
  rfl

section
variable {C : Cx} {Q : Exit → Act → World → Prop} {S : FS SV Atom} {o : Oper} {e : Ev SV Atom} (hb : ∀ d, e.dst = some d → d < C.n)
include hb

theorem op_make_map {t : TypeId} {k : IntKind} {x : Nat} (ho : o.op = .makeMap t none) (hd : o.dst = e.dst) (hx : S.atm x = none) (hw : e.wa = [(x, .mpb k [])]) (he : e.v = .e (.c (.mp x))) : OpOK C Q S o e := by
  refine opOK_value hd hb (fun T a w ρ h k1 k2 k3 k4 => ?_)
  have hx' : T.atm x = none := (k4.2.2 x (by simp [hw, ids])).trans hx
  obtain ⟨ρ', h', n1, n2, n3⟩ := hsat_new (c := 0) k2 hx' (A := .mpb k []) (o := .map #[] 0) (fun ρ' hx hg => ⟨w.heap.size, 0, #[], 0, hg, by simp, rfl⟩)
  refine ⟨_, ρ', h', ?_, n2, ?_, by rw [← hw] at n1; exact n1, strm_alloc k3 _⟩
  · have hrun : (Instr.makeMap t none).run C.P w = .ok (.map (some w.heap.size)) (w.alloc (.map #[] 0)) := rfl
    have hden : (SV.e (SE.c (SC.mp x))).den ρ' = .map (some w.heap.size) := by simp [SV.den, SE.den, SC.den, n3]
    rw [he, hden]
    simp only [execOp, ho, Option.map_none, Sem.run_bind, hrun, Result.andThen_ok, Sem.run_pure]
  · rw [he]
    intro c' hc'
    simp [SE.cells] at hc'
    subst hc'
    simp [SC.ok, n3]

theorem op_lookup {t : TypeId} {i : TI} {k : IntKind} {xm ix : Operand} {x : Nat} {n : Int} {m : List (Int × Bool)} (ht : tiOf C.P t = some i) (hk : i.mpk = some k) (ho : o.op = .lookup t xm ix false) (hd : o.dst = e.dst) (hw : e.wa = []) (hr : ∀ t ∈ tmpsOf [xm, ix], t ∈ e.rs) (hra : x ∈ e.ra)
    (hxm : opd S.get xm = some (.e (.c (.mp x)))) (hix : opd S.get ix = some (sval (.int k n))) (hx : S.atm x = some (.mpb k m)) (he : e.v = sval (.bool (mlk m n))) : OpOK C Q S o e := by
  refine opOK_pure hd hb hw (fun T a w ρ h k1 k2 k3 => ?_)
  have hx' : T.atm x = some (.mpb k m) := (k3.2.1 x hra).trans hx
  obtain ⟨p1, p2⟩ := opd_den k1 hxm (agree_opd k3 hr (by simp))
  obtain ⟨q1, _⟩ := opd_den k1 hix (agree_opd k3 hr (by simp))
  obtain ⟨g, c, es, cl, r1, r2, r2', r3⟩ := atom_mpb k2 hx'
  have p1' : a.eval xm = .map (some g) := by rw [p1]; simp [SV.den, SE.den, SC.den, r1]
  have q1' : a.eval ix = .int k n := q1
  obtain ⟨kt, et, inf, g1, g2, g3, g4⟩ := ti_map ht hk
  rw [he]
  refine ⟨?_, sval_ok ρ _⟩
  have hkey : MapKept.IsKey (.int k) (.int k n) := rfl
  have hz : (zeroValue et).run C.P w = .ok (.bool false) w := by simp [zeroValue, typeInfo, g3, g4]
  rcases find_spec k n es.toList m 0 r3 with ⟨f1, f2, _⟩ | ⟨j, e', f1, f2, f3, f4, _⟩
  · have : (Instr.lookup t (.map (some g)) (.int k n) false).run C.P w = .ok (.bool false) w := by
      simp [Instr.lookup, run_underlying g1, MapKept.run_getObj_map r2, MapKept.run_checkKey g2 hkey, MapKept.run_findKey g2 f1, hz]
    simp only [execOp, ho, p1', q1', Sem.run_bind, this, Result.andThen_ok, Sem.run_pure, f2, sval_den]
  · have : (Instr.lookup t (.map (some g)) (.int k n) false).run C.P w = .ok (.bool (mlk m n)) w := by
      simp [Instr.lookup, run_underlying g1, MapKept.run_getObj_map r2, MapKept.run_checkKey g2 hkey, MapKept.run_findKey g2 f1, f4]
    simp only [execOp, ho, p1', q1', Sem.run_bind, this, Result.andThen_ok, Sem.run_pure, sval_den]
end

theorem op_map_update {C : Cx} {Q : Exit → Act → World → Prop} {S : FS SV Atom} {o : Oper} {e : Ev SV Atom} {t : TypeId} {i : TI} {k : IntKind} {xm ix xv : Operand} {x : Nat} {n : Int} {b : Bool} {m : List (Int × Bool)} (ht : tiOf C.P t = some i) (hk : i.mpk = some k) (ho : o.op = .mapUpdate t xm ix xv) (hd : o.dst = none) (hd' : e.dst = none) (hr : ∀ t ∈ tmpsOf [xm, ix, xv], t ∈ e.rs)
    (hxm : opd S.get xm = some (.e (.c (.mp x)))) (hix : opd S.get ix = some (sval (.int k n))) (hxv : opd S.get xv = some (sval (.bool b))) (hx : S.atm x = some (.mpb k m)) (hw : e.wa = [(x, .mpb k (mput m n b))]) : OpOK C Q S o e := by
  refine opOK_skip hd hd' (fun T a w ρ h k1 k2 k3 k4 => ?_)
  have hx' : T.atm x = some (.mpb k m) := (k4.2.2 x (by simp [hw, ids])).trans hx
  obtain ⟨p1, p2⟩ := opd_den k1 hxm (agree_opd k4 hr (by simp))
  obtain ⟨q1, _⟩ := opd_den k1 hix (agree_opd k4 hr (by simp))
  obtain ⟨u1, _⟩ := opd_den k1 hxv (agree_opd k4 hr (by simp))
  obtain ⟨g, c, es, cl, r1, r2, r2', r3⟩ := atom_mpb k2 hx'
  have p1' : a.eval xm = .map (some g) := by rw [p1]; simp [SV.den, SE.den, SC.den, r1]
  have q1' : a.eval ix = .int k n := q1
  have u1' : a.eval xv = .bool b := u1
  obtain ⟨kt, et, inf, g1, g2, g3, g4⟩ := ti_map ht hk
  have hkey : MapKept.IsKey (.int k) (.int k n) := rfl
  have main : ∃ es' cl', (Instr.mapUpdate t (.map (some g)) (.int k n) (.bool b)).run C.P w = .ok () { w with heap := w.heap.setIfInBounds g (.map es' cl') } ∧ es'.toList.map (fun e => (e.key, e.val)) = (mput m n b).map fun p => (Value.int k p.1, Value.bool p.2) := by
    rcases find_spec k n es.toList m 0 r3 with ⟨f1, f2, f5⟩ | ⟨j, e', f1, f2, f3, f4, f5⟩
    · refine ⟨es.push ⟨.int k n, .bool b, cl⟩, cl + 1, ?_, by simp [r3, f5]⟩
      simp [Instr.mapUpdate, run_underlying g1, MapKept.run_getObj_map r2, MapKept.run_checkKey g2 hkey, MapKept.run_findKey g2 f1, MapKept.run_setObj_map _ r2, Result.andThen]
    · have hj : es[j]? = some e' := by simpa using f2
      refine ⟨es.modify j (fun e' => { e' with key := .int k n, val := .bool b }), cl, ?_, ?_⟩
      · simp [Instr.mapUpdate, run_underlying g1, MapKept.run_getObj_map r2, MapKept.run_checkKey g2 hkey, MapKept.run_findKey g2 f1, hj, f3, MapKept.run_keyThatStays hkey, MapKept.run_setObj_map _ r2, Result.andThen]
      · rw [f5, List.map_set, ← r3]
        apply List.ext_getElem?
        intro q
        simp only [List.getElem?_map, Array.getElem?_toList, Array.getElem?_modify, List.getElem?_set, List.length_map, Array.length_toList]
        by_cases hq : j = q
        · subst hq
          have hlt : j < es.size := (Array.getElem?_eq_some_iff.1 hj).1
          simp [hj, hlt]
        · simp [hq]
  obtain ⟨es', cl', hrun, hes⟩ := main
  obtain ⟨s1, s2⟩ := MapKept.heap_set (o' := .map es' cl') r2
  obtain ⟨h', hh'⟩ := hsat_turn (w' := { w with heap := w.heap.setIfInBounds g (.map es' cl') }) (A := .mpb k (mput m n b)) k2 r2' (by rw [hx']; simp) s1 s2 ⟨g, c, es', cl', r1, by simp, hes⟩
  refine ⟨{ w with heap := w.heap.setIfInBounds g (.map es' cl') }, ρ, h', ?_, Ext.refl ρ, by rw [← hw] at hh'; exact hh', ⟨k3.os, k3.tape, k3.output, by have := k3.size; simpa using this⟩⟩
  simp only [execOp, ho, p1', q1', u1', Sem.run_bind, hrun, Result.andThen_ok, Sem.run_pure]

/-! ### A list that came in, appended to one's own -/
def rd1 (F : Hp) (B : Addr) : Value → Value
  | .int k _ => .int k (F.int B)
  | .bool _ => .bool (F.bool B)
  | _ => undef
def ibB : List Value → Bool
  | [] => true
  | .int _ _ :: r => ibB r
  | .bool _ :: r => ibB r
  | _ :: _ => false
@[irreducible] def extV (F : Hp) (A : Option Addr) (m sz : Nat) (zs : List Value) : List Value := (List.range (m * sz)).map fun q => rd1 F ((A.getD ⟨0, 0, none⟩).add q) (zs.getD (q % sz) undef)
@[irreducible] def cExt (F : Hp) (A : Option Addr) (m sz : Nat) (zs : List Value) : Prop := ∀ q, q < m * sz → A.isSome = true ∧ F.cell ((A.getD ⟨0, 0, none⟩).add q) = some (rd1 F ((A.getD ⟨0, 0, none⟩).add q) (zs.getD (q % sz) undef))
theorem extV_len (F : Hp) (A : Option Addr) (m sz : Nat) (zs : List Value) : (extV F A m sz zs).length = m * sz := by simp [extV]
theorem ibB_get : ∀ {zs : List Value}, ibB zs = true → ∀ q, q < zs.length → (∃ k n, zs.getD q undef = .int k n) ∨ ∃ b, zs.getD q undef = .bool b
  | [], _, q, h => by simp at h
  | z :: r, hz, 0, _ => by
    cases z <;> simp only [ibB, Bool.false_eq_true] at hz
    · exact .inr ⟨_, rfl⟩
    · exact .inl ⟨_, _, rfl⟩
  | z :: r, hz, q + 1, h => by
    have hr : ibB r = true := by cases z <;> simp only [ibB, Bool.false_eq_true] at hz <;> exact hz
    have := ibB_get hr q (by simpa using h)
    simpa using this
theorem extV_one {F : Hp} {A : Option Addr} {m sz : Nat} {zs : List Value} (hz : ibB zs = true) (hl : zs.length = sz) (hs : 0 < sz) : ∀ u ∈ extV F A m sz zs, u.oneCell' = true := by
  intro u hu
  unfold extV at hu
  obtain ⟨q, _, rfl⟩ := List.mem_map.1 hu
  rcases ibB_get hz (q % sz) (by rw [hl]; exact Nat.mod_lt _ hs) with ⟨k, n, h⟩ | ⟨b, h⟩ <;> rw [h] <;> rfl

/-- append of nothing. -/
theorem run_append_none {P : Program} {w : World} (t ty e : TypeId) (i : TypeInfo) (ht : P.underlying t = some (.slice e)) (hi : P.info? e = some i) {g n cap c : Nat} (hnc : n ≤ cap) :
    (Builtin.append_ #[t, t] ty #[.slice (some ⟨g, 0, none⟩) n cap, .slice none 0 c]).run P w = .ok (.slice (some ⟨g, 0, none⟩) n cap) w := by
  simp [Builtin.append_, run_underlying ht, sizeOf, typeInfo, hi, Builtin.lenOf, hnc, Builtin.firstCells, storeCells]

section
variable {C : Cx} {Q : Exit → Act → World → Prop} {S : FS SV Atom} {o : Oper} {e : Ev SV Atom} (hb : ∀ d, e.dst = some d → d < C.n)
include hb
theorem op_append_ext {t et : TypeId} {i j : TI} {s x : Operand} {y n m id cc : Nat} {A : Option Addr} {xs : List Value} {ats : Array TypeId} (hats : ats = #[t, t]) (ht : tiOf C.P t = some i) (hel : i.el = some et) (het : tiOf C.P et = some j) (ho : o.op = .call { callee := .builtin .append, args := #[s, x], argTypes := ats }) (hd : o.dst = e.dst) (hr : ∀ t ∈ tmpsOf [s, x], t ∈ e.rs)
    (hs : opd S.get s = some (.e (.c (.sli y n)))) (hx : opd S.get x = some (sval (.slice A m cc))) (hy : S.atm y = some (.row et j.size n xs)) (hid : S.atm id = none)
    (hzl : j.zero.length = j.size) (hj : 0 < j.size) (hby : 0 < j.byt) (hib : ibB j.zero = true) (hce : cExt C.F A m j.size j.zero) (hnil : A.isSome = true ∨ m = 0) (hc : cRoom (n + m) j.byt) (hw : e.wa = [(id, .row et j.size (n + m) (xs ++ extV C.F A m j.size j.zero)), (y, .gone)]) (he : e.v = .e (.c (.sli id (n + m)))) : OpOK C Q S o e := by
  refine opOK_value hd hb (fun T a w ρ h k1 k2 k3 k4 => ?_)
  have hy' : T.atm y = some (.row et j.size n xs) := (k4.2.2 y (by simp [hw, ids])).trans hy
  have hid' : T.atm id = none := (k4.2.2 id (by simp [hw, ids])).trans hid
  have hidy : id ≠ y := fun e => by rw [e, hy'] at hid'; cases hid'
  obtain ⟨p1, p2⟩ := opd_den k1 hs (agree_opd k4 hr (by simp))
  obtain ⟨r1, r2⟩ := opd_den k1 hx (agree_opd k4 hr (by simp))
  obtain ⟨g, c, cur, q1, q2, q2', q3, q4, q5, q6, q7, q8, q9⟩ := atom_row k2 hy'
  have p1' : a.eval s = .slice (some ⟨g, 0, none⟩) n c := by rw [p1]; simp [SV.den, SE.den, SC.den, q1]
  have r1' : a.eval x = .slice A m cc := r1
  obtain ⟨d, inf, zv, g1, gg2, g3, g4, g5, g6, g7, g8, g9, g10, g11, g12, g13⟩ := ti_spec ht
  rw [hel] at g9
  cases d <;> simp only [tiEl, reduceCtorEq] at g9
  cases g9
  obtain ⟨d', inf', zv', f1, f2, f3, f4, f5, f6, f7, f8, f9, f10, f11, f12, f13⟩ := ti_spec het
  have hzs : zv'.cells.size = inf'.size := by rw [f3, ← hzl, ← f5, Array.length_toList]
  unfold cRoom at hc
  have main : ∃ g' cap' cur' w', (Builtin.append_ #[t, t] o.type #[.slice (some ⟨g, 0, none⟩) n c, .slice A m cc]).run C.P w = .ok (.slice (some ⟨g', 0, none⟩) (n + m) cap') w' ∧
      w'.heap[g']? = some (.cells cur' et (0, 0)) ∧ n + m ≤ cap' ∧ cap' ≤ maxLen ∧ cur'.size = cap' * inf'.size ∧ cur'.toList.take ((n + m) * inf'.size) = xs ++ extV C.F A m j.size j.zero ∧ (g' = g ∨ g' = w.heap.size) ∧
      (∀ k o, w.heap[k]? = some o → k ≠ g → w'.heap[k]? = some o) ∧ w'.os = w.os ∧ w'.tape = w.tape ∧ w'.output = w.output ∧ w.heap.size ≤ w'.heap.size := by
    cases A with
    | none =>
      have hm : m = 0 := by
        rcases hnil with h | h
        · cases h
        · exact h
      subst hm
      refine ⟨g, c, cur, w, run_append_none t o.type _ inf' g1 f2 q4, q2, q4, q5, by rw [q6, f3], ?_, .inl rfl, fun k o hk _ => hk, rfl, rfl, rfl, Nat.le_refl _⟩
      have : extV C.F none 0 j.size j.zero = [] := by simp [extV]
      rw [this, List.append_nil, Nat.add_zero, f3]
      exact q7
    | some A0 =>
      exact run_append_at (P := C.P) (w := w) t o.type _ inf' zv' g1 f2 f4 hzs (by omega) q2 (by rw [q3, f3]) q4 q5 (by rw [q6, f3]) (by rw [f3]; exact q7)
        A0 m cc (extV C.F (some A0) m j.size j.zero) (by rw [extV_len, f3]) (fun j' u hj' => by
          have hlt : j' < m * j.size := by
            have := (List.getElem?_eq_some_iff.1 hj').1
            rwa [extV_len] at this
          unfold cExt at hce
          have := (hce j' hlt).2
          have e1 : (extV C.F (some A0) m j.size j.zero)[j']? = some (rd1 C.F (A0.add j') (j.zero.getD (j' % j.size) undef)) := by simp [extV, hlt]
          rw [e1] at hj'
          cases hj'
          exact cell_of_F k2.fr this) (extV_one hib hzl hj) (by rw [f13]; exact hc) (by omega)
  obtain ⟨g', cap', cur', w', a1, a2, a3, a4, a5, a6, a7, a8, a9, a10, a11, a12⟩ := main
  have hρid := k2.new id hid'
  have hext : Ext ρ (fun v => if v = id then some (g', cap') else ρ v) := by
    intro v p hv
    have : v ≠ id := fun e => by rw [e, hρid] at hv; cases hv
    simp [this, hv]
  have hg'lt : g' = g ∨ w.heap.size ≤ g' := a7.imp (fun h => h) (fun h => by omega)
  have hone := extV_one (F := C.F) (A := A) (m := m) hib hzl hj
  have hlen := extV_len C.F A m j.size j.zero
  have hsat := hsat_gen (wa := [(id, .row et j.size (n + m) (xs ++ extV C.F A m j.size j.zero)), (y, .gone)]) (hx := fun v k => if v = id ∧ k = g' then some (.cells cur' et (0, 0)) else none) (w' := w') k2 hext ?_ ?_ ?_ ?_ ?_
  · refine ⟨w', _, _, ?_, hext, ?_, by rw [← hw] at hsat; exact hsat, ⟨a9.trans k3.os, a10.trans k3.tape, a11.trans k3.output, Nat.le_trans k3.size a12⟩⟩
    · rw [he]
      have hden : (SV.e (SE.c (SC.sli id (n + m)))).den (fun v => if v = id then some (g', cap') else ρ v) = .slice (some ⟨g', 0, none⟩) (n + m) cap' := by simp [SV.den, SE.den, SC.den]
      rw [hden]
      simp only [execOp, ho, resolve, Sem.run_bind, Sem.run_pure, Result.andThen_ok, invoke, builtin]
      rw [hats]
      have : (#[s, x].map a.eval) = #[.slice (some ⟨g, 0, none⟩) n c, .slice A m cc] := by simp [p1', r1']
      rw [this, a1]
      rfl
    · rw [he]
      intro c' hc'
      simp [SE.cells] at hc'
      subst hc'
      simp [SC.ok]
  · intro v hv
    simp only [updA, lk_cons, lk_nil] at hv
    by_cases e1 : id = v
    · simp [e1] at hv
    · by_cases e2 : y = v
      · simp [e1, e2] at hv
      · simp only [e1, e2, if_false] at hv
        simp [show ¬ v = id from fun q => e1 q.symm, k2.new v hv]
  · intro v A' hv
    rw [lk_cons, lk_cons, lk_nil] at hv
    split at hv
    · rename_i e1
      subst e1
      cases hv
      exact ⟨g', cap', cur', by simp, by simp, by rw [List.length_append, q3, hlen, Nat.add_mul], a3, a4, by rw [a5, f3], by have q := a6; rw [f3] at q; exact q, fun v hv => (List.mem_append.1 hv).elim (q8 v) (hone v)⟩
    · split at hv
      · cases hv; trivial
      · cases hv
  · intro v v' k o' hv hv' hk hne'
    by_cases e1 : v' = id
    · have : v ≠ id := fun q => hne' (q.trans e1.symm)
      simp [this] at hk
    · simp [e1]
  · intro v k o' hv hk
    by_cases e1 : v = id ∧ k = g'
    · simp only [e1, and_self, if_true, Option.some.injEq] at hk
      subst hk
      obtain ⟨rfl, rfl⟩ := e1
      refine ⟨a2, hg'lt.imp (fun h => ⟨y, by simp [ids], _, by rw [h]; exact q2'⟩) (fun h => h)⟩
    · simp [e1] at hk
  · intro k o' hk hno
    have : k ≠ g := fun e1 => by
      have := hno y (by simp [ids])
      rw [e1, q2'] at this; cases this
    exact a8 k o' hk this

/-- A field of what came in. -/
theorem op_field_addr_ext {s ft : TypeId} {i j : TI} {x : Operand} {f fo : Nat} {A : Addr} (ht : tiOf C.P s = some i) (hf : i.flds[f]? = some (fo, ft)) (hft : tiOf C.P ft = some j) (hj : j.size ≠ 0) (ho : o.op = .fieldAddr s x f) (hd : o.dst = e.dst) (hw : e.wa = []) (hr : ∀ t ∈ tmpsOf [x], t ∈ e.rs)
    (hx : opd S.get x = some (sval (.pointer (some A)))) (he : e.v = sval (.pointer (some (A.add fo)))) : OpOK C Q S o e := by
  refine op_one hb hd hw hr hx he (fun a w h => ?_)
  obtain ⟨d, inf, z, g1, g2, g3, g4, g5, g6, g7, _⟩ := ti_spec ht
  cases d <;> simp only [tiFlds] at g7 <;> (try (rw [← g7] at hf; simp at hf; done))
  rename_i fs _
  rw [← g7, List.getElem?_map] at hf
  obtain ⟨fl, hfl, hfe⟩ := Option.map_eq_some_iff.1 hf
  cases hfe
  have hfl' : fs[f]? = some fl := by simpa using hfl
  simp [execOp, ho, Instr.fieldAt, run_underlying g1, hfl', Instr.sureAddr, h, fieldPlace, run_size hft, hj]
end
end Go.Sy
