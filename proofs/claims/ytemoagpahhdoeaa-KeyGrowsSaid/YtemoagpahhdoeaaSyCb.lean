/- More operations as events: what is built, compared, converted; elements; lists. No condition. -/
import Derived.Test.YtemoagpahhdoeaaSyC
import Derived.Laws.StructEq
namespace Go.Sy
set_option linter.unusedSimpArgs false
set_option linter.unusedVariables false

theorem foldl_set (off : Nat) : ∀ (us : List Value) (k : Nat) (cells : Array Value), off + k + us.length ≤ cells.size →
    ((us.zipIdx k).foldl (fun cs (p : Value × Nat) => cs.setIfInBounds (off + p.2) p.1) cells).size = cells.size ∧
    ∀ m, ((us.zipIdx k).foldl (fun cs (p : Value × Nat) => cs.setIfInBounds (off + p.2) p.1) cells)[m]? = if off + k ≤ m ∧ m < off + k + us.length then us[m - off - k]? else cells[m]?
  | [], k, cells, h => ⟨rfl, fun m => by simp; omega⟩
  | u :: us, k, cells, h => by
    simp only [List.length_cons] at h
    simp only [List.zipIdx_cons, List.foldl_cons]
    obtain ⟨p1, p2⟩ := foldl_set off us (k + 1) (cells.setIfInBounds (off + k) u) (by simp; omega)
    refine ⟨by rw [p1]; simp, fun m => ?_⟩
    rw [p2 m]
    by_cases e1 : m = off + k
    · subst e1
      have n1 : ¬ (off + (k + 1) ≤ off + k ∧ off + k < off + (k + 1) + us.length) := by omega
      have n2 : off + k ≤ off + k ∧ off + k < off + k + (u :: us).length := by simp
      rw [if_neg n1, if_pos n2]
      have : off + k < cells.size := by omega
      simp [Array.getElem?_setIfInBounds, this, show off + k - off - k = 0 by omega]
    · by_cases e2 : off + (k + 1) ≤ m ∧ m < off + (k + 1) + us.length
      · have n2 : off + k ≤ m ∧ m < off + k + (u :: us).length := by simp; omega
        rw [if_pos e2, if_pos n2]
        obtain ⟨j, rfl⟩ : ∃ j, m = off + (k + 1) + j := ⟨m - (off + (k + 1)), by omega⟩
        rw [show off + (k + 1) + j - off - (k + 1) = j by omega, show off + (k + 1) + j - off - k = j + 1 by omega]
        simp
      · have n2 : ¬ (off + k ≤ m ∧ m < off + k + (u :: us).length) := by simp; omega
        rw [if_neg e2, if_neg n2, Array.getElem?_setIfInBounds_ne (fun q => e1 q.symm)]

theorem fill_one (ρ : Env) (cs us : List SC) (off : Nat) (h : off + us.length ≤ cs.length) :
    ((us.map (SC.den ρ)).toArray.zipIdx.foldl (fun cs (p : Value × Nat) => cs.setIfInBounds (off + p.2) p.1) (cs.map (SC.den ρ)).toArray) = ((setCs cs off us).map (SC.den ρ)).toArray := by
  rw [← Array.foldl_toList, Array.toList_zipIdx]
  obtain ⟨p1, p2⟩ := foldl_set off (us.map (SC.den ρ)) 0 (cs.map (SC.den ρ)).toArray (by simp; omega)
  apply Array.ext_getElem?
  intro m
  simp only [List.toList_toArray]
  rw [p2 m]
  simp only [List.getElem?_toArray, List.getElem?_map, List.length_map, Nat.add_zero, Nat.sub_zero]
  rw [setCs_get cs off us m h]
  split <;> rfl

/-- The parts of a value, one behind the other. -/
def fillS (T : TT) (get : Operand → Option SV) (pl : List (Nat × TypeId)) : List (Nat × Operand) → List SC → Option (List SC)
  | [], cs => some cs
  | (f, x) :: r, cs => match get x, pl[f]? with
    | some (.e u), some (fo, ft) => match T ft with
      | some j => match Nat.beq u.cells.length j.size, Nat.ble (fo + j.size) cs.length, allOne u.cells with
        | true, true, true => fillS T get pl r (setCs cs fo u.cells)
        | _, _, _ => none
      | none => none
    | _, _ => none

theorem fillS_ok {P : Program} {T : TT} (hT : TOK P T) {get : Operand → Option SV} {pl : List (Nat × TypeId)} {a : Act} {ρ : Env} {place : Nat → Option (Nat × Nat)} (hpl : ∀ f fo ft j, pl[f]? = some (fo, ft) → tiOf P ft = some j → place f = some (fo, j.size)) :
    ∀ (parts : List (Nat × Operand)) (cs cs' : List SC), (∀ p ∈ parts, ∀ v, get p.2 = some v → a.eval p.2 = v.den ρ ∧ v.ok ρ) → (∀ c ∈ cs, c.ok ρ) → allOne cs = true → fillS T get pl parts cs = some cs' →
      Instr.fill place (cs.map (SC.den ρ)).toArray (parts.map fun p => (p.1, a.eval p.2)) = some (cs'.map (SC.den ρ)).toArray ∧ (∀ c ∈ cs', c.ok ρ) ∧ allOne cs' = true ∧ cs'.length = cs.length
  | [], cs, cs', _, h1, h2, h => by cases h; exact ⟨rfl, h1, h2, rfl⟩
  | (f, x) :: r, cs, cs', hg, h1, h2, h => by
    simp only [fillS] at h
    split at h
    · rename_i u fo ft hx hf
      split at h
      · rename_i j hj
        split at h
        · rename_i b1 b2 b3
          have b1 := Nat.eq_of_beq_eq_true b1
          have b2 := Nat.le_of_ble_eq_true b2
          obtain ⟨e1, e2⟩ := hg (f, x) (by simp) _ hx
          have e1' : a.eval x = u.den ρ := e1
          have hok : ∀ c ∈ setCs cs fo u.cells, c.ok ρ := fun c hc => by
            rcases setCs_mem cs fo u.cells c hc with hc | hc
            · exact h1 c hc
            · exact e2 c hc
          have hone : allOne (setCs cs fo u.cells) = true := allOne_of (fun c hc => by
            rcases setCs_mem cs fo u.cells c hc with hc | hc
            · exact allOne_mem h2 hc
            · exact allOne_mem b3 hc)
          obtain ⟨q1, q2, q3, q4⟩ := fillS_ok hT hpl r _ _ (fun p hp => hg p (by simp [hp])) hok hone h
          refine ⟨?_, q2, q3, q4.trans (setCs_len _ _ _)⟩
          simp only [List.map_cons, Instr.fill, hpl f fo ft j hf (hT _ _ hj), e1', den_cells b3]
          have n1 : ¬ ((decide ((List.map (SC.den ρ) u.cells).toArray.size ≠ j.size) || decide (fo + (List.map (SC.den ρ) u.cells).toArray.size > (List.map (SC.den ρ) cs).toArray.size)) = true) := by
            simp; omega
          rw [if_neg n1]
          have := fill_one ρ cs u.cells fo (by omega)
          rw [this]
          exact q1
        · cases h
      · cases h
    · cases h

theorem run_places {P : Program} (fs : Array Field) (w : World) (h : ∀ f ∈ fs, ∃ i, P.info? f.type = some i) : (fs.mapM (m := Sem) fun f => do pure (f.offset, ← sizeOf f.type)).run P w = .ok (fs.map fun f => (f.offset, P.cellsOf f.type)) w := by
  rw [Array.mapM_eq_mapM_toList, Sem.run_map]
  have : ∀ (l : List Field), (∀ f ∈ l, ∃ i, P.info? f.type = some i) → (l.mapM (m := Sem) fun f => do pure (f.offset, ← sizeOf f.type)).run P w = .ok (l.map fun f => (f.offset, P.cellsOf f.type)) w := by
    intro l
    induction l with
    | nil => intro _; simp
    | cons f l ih =>
      intro hl
      obtain ⟨i, hi⟩ := hl f (by simp)
      have hsz : (sizeOf f.type).run P w = .ok i.size w := by simp [sizeOf, typeInfo, hi]
      have hc : P.cellsOf f.type = i.size := by simp [Program.cellsOf, hi]
      rw [List.mapM_cons, Sem.run_bind]
      simp only [Sem.run_bind, hsz, Result.andThen_ok, Sem.run_pure, ih (fun f hf => hl f (by simp [hf])), List.map_cons, hc]
  rw [this fs.toList (fun f hf => h f (Array.mem_toList_iff.1 hf))]
  simp only [Result.andThen_ok]
  congr 1
  apply Array.toList_inj.1
  simp

theorem cellsOf_ti {P : Program} {t : TypeId} {i : TI} (h : tiOf P t = some i) : P.cellsOf t = i.size := by
  obtain ⟨d, inf, z, g1, g2, g3, _⟩ := ti_spec h
  simp [Program.cellsOf, g2, g3]

def infoAll (P : Program) (pl : List (Nat × TypeId)) : Bool := pl.all fun p => (P.info? p.2).isSome

/-- Two lists of numbers, compared. -/
def eqInts : List SC → List SC → Option Bool
  | [.val (.int k a)], [.val (.int k' b)] => match decide (k = k') with
    | true => some (ieq a b)
    | false => none
  | .val (.int k a) :: r, .val (.int k' b) :: r' => match decide (k = k'), eqInts r r' with
    | true, some q => some (ieq a b && q)
    | _, _ => none
  | _, _ => none

theorem run_eqFields {P : Program} (w : World) (ρ : Env) (d : Nat) : ∀ (fs : List Field) (n : Nat) (xs ys : List SC) (q : Bool), (∀ f ∈ fs, (f.name == "_") = false ∧ isIntT P f.type = true) → (fs.map fun f => f.offset) = (List.range fs.length).map (· + n) →
    ∀ (X Y : List SC), X.drop n = xs → Y.drop n = ys → eqInts xs ys = some q → fs.length = xs.length → fs.length = ys.length →
    (Op.eqFields (d + 1) (X.map (SC.den ρ)).toArray (Y.map (SC.den ρ)).toArray fs).run P w = .ok q w := by
  intro fs
  induction fs with
  | nil =>
    intro n xs ys q _ _ X Y hX hY hq hl hl'
    have : xs = [] := List.eq_nil_of_length_eq_zero (by simpa using hl.symm)
    subst this
    simp [eqInts] at hq
  | cons f fs ih =>
    intro n xs ys q hf hoff X Y hX hY hq hl hl'
    obtain ⟨hn, hi⟩ := hf f (by simp)
    have hn' : f.name ≠ "_" := by simpa using hn
    have hoff0 : f.offset = n := by
      simp only [List.map_cons, List.length_cons, List.range_succ_eq_map, List.map_map, List.cons.injEq] at hoff
      simpa using hoff.1
    have hoffr : (fs.map fun f => f.offset) = (List.range fs.length).map (· + (n + 1)) := by
      simp only [List.map_cons, List.length_cons, List.range_succ_eq_map, List.map_map, List.cons.injEq] at hoff
      rw [hoff.2]
      apply List.map_congr_left
      intro j _
      simp; omega
    unfold isIntT at hi
    split at hi
    · rename_i k hk
      cases xs with
      | nil => simp at hl
      | cons x xs =>
        cases ys with
        | nil => simp at hl'
        | cons y ys =>
          have hXn : X[n]? = some x := by have := congrArg (·[0]?) hX; simpa using this
          have hYn : Y[n]? = some y := by have := congrArg (·[0]?) hY; simpa using this
          have hXr : X.drop (n + 1) = xs := by rw [← List.drop_drop, show X.drop n = x :: xs from hX]; rfl
          have hYr : Y.drop (n + 1) = ys := by rw [← List.drop_drop, show Y.drop n = y :: ys from hY]; rfl
          have hagg : (isAgg f.type).run P w = .ok false w := by simp [isAgg, run_underlying hk]
          have hcase : ∃ k1 a b, x = .val (.int k1 a) ∧ y = .val (.int k1 b) ∧ ((xs = [] ∧ ys = [] ∧ q = ieq a b) ∨ ∃ q', eqInts xs ys = some q' ∧ q = (ieq a b && q')) := by
            unfold eqInts at hq
            split at hq
            · rename_i k1 a k2 b e1 e2
              cases e1; cases e2
              split at hq
              · rename_i hk
                have hk := of_decide_eq_true hk
                subst hk
                exact ⟨_, _, _, rfl, rfl, .inl ⟨rfl, rfl, by simpa using hq.symm⟩⟩
              · cases hq
            · rename_i k1 a r k2 b r' _ e1 e2
              cases e1; cases e2
              split at hq
              · rename_i hk hq'
                have hk := of_decide_eq_true hk
                subst hk
                cases hq
                exact ⟨_, _, _, rfl, rfl, .inr ⟨_, hq', rfl⟩⟩
              · cases hq
            · cases hq
          obtain ⟨k1, a, b, rfl, rfl, hq'⟩ := hcase
          have hpx : (part f.type (X.map (SC.den ρ)).toArray f.offset).run P w = .ok (.int k1 a) w := by
            simp [part, hagg, hoff0, hXn, SC.den]
          have hpy : (part f.type (Y.map (SC.den ρ)).toArray f.offset).run P w = .ok (.int k1 b) w := by
            simp [part, hagg, hoff0, hYn, SC.den]
          have heq : (Op.equalIn (d + 1) f.type (.int k1 a) (.int k1 b)).run P w = .ok (a == b) w := by
            simp [Op.equalIn, run_underlying hk]
          simp only [Op.eqFields, hn', ne_eq, not_false_eq_true, if_true, Sem.run_bind, hpx, hpy, heq, Result.andThen_ok]
          rcases hq' with ⟨rfl, rfl, rfl⟩ | ⟨q', hq', rfl⟩
          · have : fs = [] := List.eq_nil_of_length_eq_zero (by simpa using hl)
            subst this
            cases hab : (a == b) <;> simp [Op.eqFields, ieq, hab]
          · cases hab : (a == b) with
            | false => simp [ieq, hab]
            | true =>
              simp only [Bool.not_true, Bool.false_eq_true, if_false]
              rw [ih (n + 1) xs ys q' (fun f hf' => hf f (by simp [hf'])) hoffr X Y hXr hYr hq' (by simpa using hl) (by simpa using hl')]
              simp [ieq, hab]
    · cases hi

/-! ### What is only read -/
def Hp.cell (F : Hp) (a : Addr) : Option Value := match F a.block with
  | some (.cells c _ _) => if a.spot.isSome then none else c[a.off]?
  | _ => none
def Hp.int (F : Hp) (a : Addr) : Int := match F.cell a with | some (.int _ n) => n | _ => 0
def Hp.bool (F : Hp) (a : Addr) : Bool := match F.cell a with | some (.bool b) => b | _ => false
/-- Cells that are read, of the kinds of a zero value's. -/
def rdT (F : Hp) (A : Addr) : List Value → Nat → List SC
  | [], _ => []
  | .int k _ :: r, j => .val (.int k (F.int (A.add j))) :: rdT F A r (j + 1)
  | .bool _ :: r, j => .val (.bool (F.bool (A.add j))) :: rdT F A r (j + 1)
  | _ :: r, j => .val ((F.cell (A.add j)).getD undef) :: rdT F A r (j + 1)
def allVal : List SC → Option (List Value)
  | [] => some []
  | .val v :: r => match allVal r with
    | some l => some (v :: l)
    | none => none
  | _ :: _ => none
/-- The cells that are read are these. -/
def cRead (F : Hp) (A : Addr) (zs : List Value) : Prop := ∀ j c, (rdT F A zs 0)[j]? = some c → ∃ v, c = .val v ∧ F.cell (A.add j) = some v

theorem cell_of_F {F : Hp} {w : World} (h : ∀ k o, F k = some o → w.heap[k]? = some o) {a : Addr} {v : Value} (hv : F.cell a = some v) : w.cell? a = some v := by
  unfold Hp.cell at hv
  unfold World.cell?
  split at hv
  · rename_i c t f hF
    rw [h _ _ hF]
    exact hv
  · cases hv

theorem rdT_len (F : Hp) (A : Addr) : ∀ (zs : List Value) (j : Nat), (rdT F A zs j).length = zs.length
  | [], j => rfl
  | z :: r, j => by cases z <;> simp [rdT, rdT_len F A r (j + 1)]

/-- The address of an element. -/
def elAt (a : Option Addr) (i : Int) (sz : Nat) : Addr := (a.getD ⟨0, 0, none⟩).add (i.toNat * sz)
/-- An index that fits. -/
def cIdx (a : Option Addr) (n : Nat) (i : Int) : Prop := a.isSome = true ∧ 0 ≤ i ∧ i < n
def cRow (n : Nat) (i : Int) : Prop := 0 ≤ i ∧ i < n

section
variable {C : Cx} {Q : Exit → Act → World → Prop} {S : FS SV Atom} {o : Oper} {e : Ev SV Atom} (hb : ∀ d, e.dst = some d → d < C.n)
include hb

theorem op_build {T : TT} (hT : TOK C.P T) {t : TypeId} {i : TI} {ps : Array (Nat × Operand)} {cs' : List SC} (ht : tiOf C.P t = some i) (ho : o.op = .build t ps) (hd : o.dst = e.dst) (hw : e.wa = []) (hr : ∀ t ∈ tmpsOf (ps.toList.map (·.2)), t ∈ e.rs)
    (hinf : infoAll C.P i.flds = true) (h1 : allOne (i.zero.map SC.val) = true) (hf : fillS T (opd S.get) (i.flds ++ i.arr) ps.toList (i.zero.map SC.val) = some cs') (hagg : i.agg = true) (hne : (i.flds ++ i.arr).isEmpty = false) (he : e.v = .e (.agg cs')) : OpOK C Q S o e := by
  refine opOK_pure hd hb hw (fun T' a w ρ h k1 k2 k3 => ?_)
  obtain ⟨z, hz, hz'⟩ := run_zero ht w
  obtain ⟨d, inf, z', g1, g2, g3, g4, g5, g6, g7, g8, _⟩ := ti_spec ht
  have hzc : z.cells = ((i.zero.map SC.val).map (SC.den ρ)).toArray := by
    rw [← hz', List.map_map]
    have : (SC.den ρ ∘ SC.val) = id := by funext v; rfl
    rw [this]; simp
  have hops : ∀ p ∈ ps.toList, ∀ v, opd S.get p.2 = some v → a.eval p.2 = v.den ρ ∧ v.ok ρ := fun p hp v hv => opd_den k1 hv (agree_opd k3 hr (List.mem_map.2 ⟨p, hp, rfl⟩))
  have hzok : ∀ c ∈ i.zero.map SC.val, c.ok ρ := fun c hc => by obtain ⟨v, _, rfl⟩ := List.mem_map.1 hc; trivial
  have hparts : (ps.map fun p => (p.1, a.eval p.2)).toList = ps.toList.map fun p => (p.1, a.eval p.2) := by simp
  rw [he]
  cases d with
  | struct fs =>
    simp only [tiFlds] at g7
    simp only [tiArr] at g8
    have hpl : ∀ (f fo : Nat) (ft : TypeId) (j : TI), (i.flds ++ i.arr)[f]? = some (fo, ft) → tiOf C.P ft = some j → (fs.map fun f => (f.offset, C.P.cellsOf f.type))[f]? = some (fo, j.size) := by
      intro f fo ft j hfl hj
      rw [← g8, List.append_nil, ← g7, List.getElem?_map] at hfl
      obtain ⟨fl, hfl1, hfl2⟩ := Option.map_eq_some_iff.1 hfl
      cases hfl2
      have : fs[f]? = some fl := by simpa using hfl1
      simp [this, cellsOf_ti hj]
    obtain ⟨q1, q2, q3, q4⟩ := fillS_ok hT (place := fun f => (fs.map fun f => (f.offset, C.P.cellsOf f.type))[f]?) hpl ps.toList _ _ hops hzok h1 hf
    have hpls := run_places (P := C.P) fs w (fun f hfm => by
      have hm : (f.offset, f.type) ∈ i.flds := by rw [← g7]; exact List.mem_map.2 ⟨f, Array.mem_toList_iff.2 hfm, rfl⟩
      exact Option.isSome_iff_exists.1 (List.all_eq_true.1 hinf _ hm))
    refine ⟨?_, q2⟩
    simp only [execOp, ho, Instr.build, Sem.run_bind, hz, Result.andThen_ok, run_underlying g1, hpls]
    rw [hzc]
    simp only [Array.toList_map]
    rw [q1]
    rfl
  | array n el =>
    simp only [tiFlds] at g7
    simp only [tiArr] at g8
    cases hel : C.P.info? el with
    | none =>
      rw [hel] at g8
      simp only at g8
      simp [← g7, ← g8] at hne
    | some inf' =>
      rw [hel] at g8
      simp only at g8
      have hpl : ∀ (f fo : Nat) (ft : TypeId) (j : TI), (i.flds ++ i.arr)[f]? = some (fo, ft) → tiOf C.P ft = some j → (fun i => some (i * inf'.size, inf'.size)) f = some (fo, j.size) := by
        intro f fo ft j hfl hj
        rw [← g7, List.nil_append, ← g8, List.getElem?_map] at hfl
        obtain ⟨fl, hfl1, hfl2⟩ := Option.map_eq_some_iff.1 hfl
        cases hfl2
        have hfl1' : fl = f := by
          have := List.getElem?_eq_some_iff.1 hfl1
          obtain ⟨h1, h2⟩ := this
          simp at h2
          exact h2.symm
        subst hfl1'
        obtain ⟨_, inf2, _, _, r2, r3, _⟩ := ti_spec hj
        rw [hel] at r2
        cases r2
        simp [r3]
      obtain ⟨q1, q2, q3, q4⟩ := fillS_ok hT (place := fun i => some (i * inf'.size, inf'.size)) hpl ps.toList _ _ hops hzok h1 hf
      refine ⟨?_, q2⟩
      have hsz : (sizeOf el).run C.P w = .ok inf'.size w := by simp [sizeOf, typeInfo, hel]
      simp only [execOp, ho, Instr.build, Sem.run_bind, hz, Result.andThen_ok, run_underlying g1, hsz]
      rw [hzc]
      simp only [Array.toList_map]
      rw [q1]
      rfl
  | _ => simp [tiAgg, hagg] at g6

end
end Go.Sy
