/- Symbolic values, blocks of a call's own, and what a machine's state must be to fit them; single operations as events. No condition. -/
import Derived.Test.YtemoagpahhdoeaaSyA
namespace Go.Sy
set_option linter.unusedSimpArgs false
set_option linter.unusedVariables false

abbrev Hp := Nat → Option Obj
abbrev Env := Nat → Option (Nat × Nat)

inductive SC where
  | val (v : Value)
  | ptr (x off : Nat)
  | sli (x n : Nat)
  | fn (f : FuncId) (first : List Value) (caps : List (Nat × Nat))
  | mp (x : Nat)
inductive SE where
  | c (x : SC)
  | agg (cs : List SC)
  | arr (xs : List Value)
inductive SV where
  | e (x : SE)
  | tup (l : List SE)

def adr (ρ : Env) (x o : Nat) : Value := .pointer (some ⟨((ρ x).getD (0, 0)).1, o, none⟩)
def SC.den (ρ : Env) : SC → Value
  | .val v => v
  | .ptr x o => adr ρ x o
  | .sli x n => .slice (some ⟨((ρ x).getD (0, 0)).1, 0, none⟩) n ((ρ x).getD (0, 0)).2
  | .fn f first caps => .func (.func f) first.toArray (caps.map fun p => adr ρ p.1 p.2).toArray
  | .mp x => .map (some ((ρ x).getD (0, 0)).1)
def SC.ok (ρ : Env) : SC → Prop
  | .val _ => True
  | .ptr x _ => (ρ x).isSome = true
  | .sli x _ => (ρ x).isSome = true
  | .fn _ _ caps => ∀ p ∈ caps, (ρ p.1).isSome = true
  | .mp x => (ρ x).isSome = true
def SC.one : SC → Bool
  | .val v => v.oneCell'
  | _ => true
def SE.den (ρ : Env) : SE → Value
  | .c x => x.den ρ
  | .agg cs => .agg (cs.map (SC.den ρ)).toArray
  | .arr xs => .agg xs.toArray
def SE.cells : SE → List SC
  | .c x => [x]
  | .agg cs => cs
  | .arr xs => xs.map .val
def SE.ok (ρ : Env) (x : SE) : Prop := ∀ c ∈ x.cells, c.ok ρ
def SV.den (ρ : Env) : SV → Value
  | .e x => x.den ρ
  | .tup l => .tuple (l.map (SE.den ρ)).toArray
def SV.ok (ρ : Env) : SV → Prop
  | .e x => x.ok ρ
  | .tup l => ∀ x ∈ l, x.ok ρ

def Ext (ρ ρ' : Env) : Prop := ∀ x p, ρ x = some p → ρ' x = some p
theorem Ext.refl (ρ : Env) : Ext ρ ρ := fun _ _ h => h
theorem Ext.trans {ρ ρ' ρ'' : Env} (h : Ext ρ ρ') (k : Ext ρ' ρ'') : Ext ρ ρ'' := fun x p hx => k x p (h x p hx)
theorem Ext.of_isSome {ρ ρ' : Env} (h : Ext ρ ρ') {x : Nat} (hx : (ρ x).isSome = true) : ρ' x = ρ x := by
  obtain ⟨p, hp⟩ := Option.isSome_iff_exists.1 hx
  rw [hp]; exact h x p hp

theorem adr_ext {ρ ρ' : Env} (h : Ext ρ ρ') {x : Nat} (hx : (ρ x).isSome = true) (o : Nat) : adr ρ' x o = adr ρ x o := by
  simp only [adr, h.of_isSome hx]
theorem SC.ext {ρ ρ' : Env} (h : Ext ρ ρ') {c : SC} (hc : c.ok ρ) : c.den ρ' = c.den ρ ∧ c.ok ρ' := by
  cases c with
  | val v => exact ⟨rfl, trivial⟩
  | ptr x o => simp only [SC.ok] at hc; simp only [SC.den, adr, SC.ok, h.of_isSome hc]; exact ⟨trivial, hc⟩
  | sli x n => simp only [SC.ok] at hc; simp only [SC.den, SC.ok, h.of_isSome hc]; exact ⟨trivial, hc⟩
  | mp x => simp only [SC.ok] at hc; simp only [SC.den, SC.ok, h.of_isSome hc]; exact ⟨trivial, hc⟩
  | fn f first caps =>
    simp only [SC.ok] at hc
    simp only [SC.den, SC.ok]
    exact ⟨by rw [List.map_congr_left (fun p hp => adr_ext h (hc p hp) p.2)], fun p hp => by rw [h.of_isSome (hc p hp)]; exact hc p hp⟩
theorem cells_ext {ρ ρ' : Env} (h : Ext ρ ρ') {cs : List SC} (hc : ∀ c ∈ cs, c.ok ρ) : cs.map (SC.den ρ') = cs.map (SC.den ρ) ∧ ∀ c ∈ cs, c.ok ρ' :=
  ⟨List.map_congr_left (fun c hm => (SC.ext h (hc c hm)).1), fun c hm => (SC.ext h (hc c hm)).2⟩
theorem SE.ext {ρ ρ' : Env} (h : Ext ρ ρ') {c : SE} (hc : c.ok ρ) : c.den ρ' = c.den ρ ∧ c.ok ρ' := by
  have := cells_ext h hc
  refine ⟨?_, this.2⟩
  cases c with
  | c x => exact (SC.ext h (hc x (by simp [SE.cells]))).1
  | agg cs => simp only [SE.cells] at this; simp only [SE.den]; rw [this.1]
  | arr xs => rfl
theorem SV.ext {ρ ρ' : Env} (h : Ext ρ ρ') {c : SV} (hc : c.ok ρ) : c.den ρ' = c.den ρ ∧ c.ok ρ' := by
  cases c with
  | e x => exact SE.ext h hc
  | tup l =>
    simp only [SV.den, SV.ok] at hc ⊢
    exact ⟨by rw [List.map_congr_left (fun x hx => (SE.ext h (hc x hx)).1)], fun x hx => (SE.ext h (hc x hx)).2⟩

/-- What a call has of its own: a block of known cells; a slice's row of n elements; a map from numbers to Bools; a block that is spent. -/
inductive Atom where
  | blk (e : TypeId) (cells : List SC)
  | row (e : TypeId) (sz n : Nat) (xs : List Value)
  | mpb (k : IntKind) (m : List (Int × Bool))
  | gone

def allOne (cs : List SC) : Bool := cs.all SC.one

def Atom.sat (ρ : Env) (x : Nat) (h : Hp) : Atom → Prop
  | .blk e cells => ∃ g c, ρ x = some (g, c) ∧ h g = some (.cells (cells.map (SC.den ρ)).toArray e (0, 0)) ∧ (∀ c ∈ cells, c.ok ρ) ∧ allOne cells = true
  | .row e sz n xs => ∃ g c cur, ρ x = some (g, c) ∧ h g = some (.cells cur e (0, 0)) ∧ xs.length = n * sz ∧ n ≤ c ∧ c ≤ maxLen ∧ cur.size = c * sz ∧ cur.toList.take (n * sz) = xs ∧ ∀ v ∈ xs, v.oneCell' = true
  | .mpb k m => ∃ g c es cl, ρ x = some (g, c) ∧ h g = some (.map es cl) ∧ es.toList.map (fun e => (e.key, e.val)) = m.map fun p => (Value.int k p.1, Value.bool p.2)
  | .gone => True

theorem Atom.ext {ρ ρ' : Env} (h : Ext ρ ρ') {x : Nat} {p q : Hp} (hpq : ∀ k o, p k = some o → q k = some o) {A : Atom} (hA : A.sat ρ x p) : A.sat ρ' x q := by
  cases A with
  | gone => trivial
  | blk e cells =>
    obtain ⟨g, c, k1, k2, k3, k4⟩ := hA
    obtain ⟨e1, e2⟩ := cells_ext h k3
    exact ⟨g, c, h _ _ k1, by rw [e1]; exact hpq _ _ k2, e2, k4⟩
  | row e sz n xs =>
    obtain ⟨g, c, cur, k1, k2, k3⟩ := hA
    exact ⟨g, c, cur, h _ _ k1, hpq _ _ k2, k3⟩
  | mpb k m =>
    obtain ⟨g, c, es, cl, k1, k2, k3⟩ := hA
    exact ⟨g, c, es, cl, h _ _ k1, hpq _ _ k2, k3⟩

/-- The heap's part of a state that fits: F is what is only read. -/
structure HSat (F : Hp) (atm : Nat → Option Atom) (ρ : Env) (h : Nat → Hp) (w : World) : Prop where
  new : ∀ x, atm x = none → ρ x = none
  sat : ∀ x A, atm x = some A → A.sat ρ x (h x)
  apart : ∀ x y k o, h x k = some o → x ≠ y → h y k = none
  own : ∀ x k o, h x k = some o → w.heap[k]? = some o ∧ F k = none
  fr : ∀ k o, F k = some o → w.heap[k]? = some o

theorem hsat_gen {F : Hp} {atm : Nat → Option Atom} {ρ : Env} {h : Nat → Hp} {w : World} (hs : HSat F atm ρ h w) {wa : List (Nat × Atom)} {w' : World} {ρ' : Env} {hx : Nat → Hp}
    (hext : Ext ρ ρ') (hnew : ∀ z, updA atm wa z = none → ρ' z = none) (hsat : ∀ z A, lk wa z = some A → A.sat ρ' z (hx z))
    (hap : ∀ y z k o, y ∈ ids wa → z ∈ ids wa → hx y k = some o → y ≠ z → hx z k = none)
    (hdom : ∀ z k o, z ∈ ids wa → hx z k = some o → w'.heap[k]? = some o ∧ ((∃ y ∈ ids wa, ∃ o', h y k = some o') ∨ w.heap.size ≤ k))
    (hkeep : ∀ k o, w.heap[k]? = some o → (∀ y ∈ ids wa, h y k = none) → w'.heap[k]? = some o) :
    HSat F (updA atm wa) ρ' (fun z => if z ∈ ids wa then hx z else h z) w' := by
  have hlt : ∀ y k o, h y k = some o → k < w.heap.size := fun y k o hk => (Array.getElem?_eq_some_iff.1 (hs.own y k o hk).1).1
  have hltF : ∀ k o, F k = some o → k < w.heap.size := fun k o hk => (Array.getElem?_eq_some_iff.1 (hs.fr k o hk)).1
  refine ⟨hnew, ?_, ?_, ?_, ?_⟩
  · intro z A hz
    unfold updA at hz
    cases hl : lk wa z with
    | some A' =>
      rw [hl] at hz
      cases hz
      simp only [lk_mem hl, if_true]
      exact hsat z A hl
    | none =>
      rw [hl] at hz
      have hn : z ∉ ids wa := fun hm => by
        have : ∃ c, lk wa z = some c := by
          clear hl hz hnew hsat hap hdom hkeep
          induction wa with
          | nil => simp [ids] at hm
          | cons p r ih =>
            obtain ⟨k, v⟩ := p
            rw [lk_cons]
            by_cases e : k = z
            · exact ⟨v, by rw [if_pos e]⟩
            · simp only [ids, List.mem_cons] at hm
              rw [if_neg e]
              exact ih (hm.resolve_left (fun q => e q.symm))
        obtain ⟨c, hc⟩ := this
        rw [hl] at hc; cases hc
      simp only [hn, if_false]
      exact Atom.ext hext (fun _ _ h => h) (hs.sat z A hz)
  · intro y z k o hy hne
    by_cases hy' : y ∈ ids wa
    · simp only [hy', if_true] at hy
      by_cases hz' : z ∈ ids wa
      · simp only [hz', if_true]
        exact hap y z k o hy' hz' hy hne
      · simp only [hz', if_false]
        rcases (hdom y k o hy' hy).2 with ⟨y', hm, o', ho'⟩ | hge
        · exact hs.apart y' z k o' ho' (fun q => hz' (q ▸ hm))
        · cases hz : h z k with
          | none => rfl
          | some o' => have := hlt z k o' hz; omega
    · simp only [hy', if_false] at hy
      by_cases hz' : z ∈ ids wa
      · simp only [hz', if_true]
        cases hz : hx z k with
        | none => rfl
        | some o' =>
          rcases (hdom z k o' hz' hz).2 with ⟨y', hm, o'', ho''⟩ | hge
          · have := hs.apart y y' k o hy (fun q => hy' (q ▸ hm))
            rw [ho''] at this; cases this
          · have := hlt y k o hy; omega
      · simp only [hz', if_false]
        exact hs.apart y z k o hy hne
  · intro z k o hz
    by_cases hz' : z ∈ ids wa
    · simp only [hz', if_true] at hz
      obtain ⟨h1, h2⟩ := hdom z k o hz' hz
      refine ⟨h1, ?_⟩
      rcases h2 with ⟨y', hm, o', ho'⟩ | hge
      · exact (hs.own y' k o' ho').2
      · cases hF : F k with
        | none => rfl
        | some o' => have := hltF k o' hF; omega
    · simp only [hz', if_false] at hz
      refine ⟨hkeep k o (hs.own z k o hz).1 (fun y hy => ?_), (hs.own z k o hz).2⟩
      exact hs.apart z y k o hz (fun q => hz' (q ▸ hy))
  · intro k o hk
    refine hkeep k o (hs.fr k o hk) (fun y _ => ?_)
    cases hy : h y k with
    | none => rfl
    | some o' => have := (hs.own y k o' hy).2; rw [this] at hk; cases hk

structure Strm (w0 w : World) : Prop where
  os : w.os = w0.os
  tape : w.tape = w0.tape
  output : w.output = w0.output
  size : w0.heap.size ≤ w.heap.size

structure Cx where
  P : Program
  F : Hp
  w0 : World
  n : Nat
  ds : List Deferred
  roots : List (Nat × (Nat × Nat))

def Slots (T : FS SV Atom) (a : Act) (ρ : Env) : Prop := ∀ t v, T.get t = some v → a.tmps.getD t undef = v.den ρ ∧ v.ok ρ

def Sat (C : Cx) (T : FS SV Atom) (a : Act) (w : World) : Prop :=
  a.tmps.size = C.n ∧ a.defers = C.ds ∧ Strm C.w0 w ∧ ∃ ρ h, HSat C.F T.atm ρ h w ∧ Slots T a ρ ∧ ∀ p ∈ C.roots, ρ p.1 = some p.2

theorem Sat.drawn {C : Cx} {T : FS SV Atom} {a : Act} {w : World} (n : Nat) (h : Sat C T a w) : Sat C T a { w with drawn := n } := by
  obtain ⟨h1, h2, h3, ρ, k, h4, h5, h6⟩ := h
  exact ⟨h1, h2, ⟨h3.os, h3.tape, h3.output, h3.size⟩, ρ, k, ⟨h4.new, h4.sat, h4.apart, h4.own, h4.fr⟩, h5, h6⟩

/-- What is to be shown ahead: nothing, or something. -/
inductive Cd where
  | t
  | p (c : Prop)
def Cd.holds : Cd → Prop
  | .t => True
  | .p c => c
def Cd.and : Cd → Prop → Prop
  | .t, q => q
  | .p c, q => c ∧ q
theorem Cd.and_ok {c : Cd} {q : Prop} (h : c.and q) : c.holds ∧ q := by cases c <;> first | exact ⟨trivial, h⟩ | exact h

/-- The event of an operation. -/
structure Out where
  cond : Cd
  v : SV
  wa : List (Nat × Atom)
  ra : List Nat

def tmpsOf (l : List Operand) : List Nat := l.filterMap fun | .tmp t => some t | _ => none
def readsOf (ops : Array Oper) (o : Oper) : List Nat := tmpsOf o.op.operands.toList ++ (match o.guard with | none => [] | some (j, _) => ((ops[j]?).bind (·.dst)).toList)
def Out.ev (r : Out) (dst : Option Nat) (rs : List Nat) : Ev SV Atom := { dst, v := r.v, wa := r.wa, rs, ra := r.ra }

def OpOK (C : Cx) (Q : Exit → Act → World → Prop) (S : FS SV Atom) (o : Oper) (e : Ev SV Atom) : Prop :=
  ∀ (T : FS SV Atom) (a : Act) (w : World) (K : Act → World → Prop), Sat C T a w → e.agree T S → (∀ a' w', Sat C (T.app e) a' w' → K a' w') → o.wp C.P a w K Q

theorem slots_put {C : Cx} {T : FS SV Atom} {a : Act} {ρ ρ' : Env} {e : Ev SV Atom} (h : Slots T a ρ) (hx : Ext ρ ρ') (hv : e.v.ok ρ') (hd : ∀ d, e.dst = some d → d < a.tmps.size) :
    Slots (T.app e) (a.put e.dst (e.v.den ρ')) ρ' := by
  intro t v ht
  simp only [FS.app] at ht
  cases hdst : e.dst with
  | none =>
    simp only [hdst, reduceCtorEq, if_false] at ht
    obtain ⟨h1, h2⟩ := h t v ht
    obtain ⟨h3, h4⟩ := SV.ext hx h2
    exact ⟨by simp only [Act.put]; rw [h1, h3], h4⟩
  | some d =>
    simp only [hdst, Option.some.injEq] at ht
    have hlt := hd d hdst
    split at ht
    · rename_i heq
      subst heq
      cases ht
      exact ⟨by simp [Act.put, Array.getElem?_setIfInBounds, hlt], hv⟩
    · rename_i hne
      obtain ⟨h1, h2⟩ := h t v ht
      obtain ⟨h3, h4⟩ := SV.ext hx h2
      refine ⟨?_, h4⟩
      rw [h3, ← h1]
      simp [Act.put, Array.getElem?_setIfInBounds, hne]

theorem size_put (a : Act) (d : Option Tmp) (v : Value) : (a.put d v).tmps.size = a.tmps.size ∧ (a.put d v).defers = a.defers := by
  cases d <;> simp [Act.put]

/-- An operation that yields a value. -/
theorem opOK_value {C : Cx} {Q : Exit → Act → World → Prop} {S : FS SV Atom} {o : Oper} {e : Ev SV Atom} (hd : o.dst = e.dst) (hb : ∀ d, e.dst = some d → d < C.n)
    (H : ∀ T a w ρ h, Slots T a ρ → HSat C.F T.atm ρ h w → Strm C.w0 w → e.agree T S →
      ∃ w' ρ' h', (execOp a.eval o).run C.P w = .ok (.value (e.v.den ρ')) w' ∧ Ext ρ ρ' ∧ e.v.ok ρ' ∧ HSat C.F (T.app e).atm ρ' h' w' ∧ Strm C.w0 w') : OpOK C Q S o e := by
  intro T a w K ⟨h1, h2, h3, ρ, h, h4, h5, h6⟩ hag hK
  obtain ⟨w', ρ', h', hr, hx, hv, hs, hst⟩ := H T a w ρ h h5 h4 h3 hag
  unfold Oper.wp
  rw [hr, Oper.upon_value, hd]
  obtain ⟨p1, p2⟩ := size_put a e.dst (e.v.den ρ')
  exact hK _ _ ⟨p1.trans h1, p2.trans h2, hst, ρ', h', hs, slots_put (C := C) h5 hx hv (fun d hd => by rw [h1]; exact hb d hd), fun p hp => hx _ _ (h6 p hp)⟩

/-- An operation that yields none (a store). -/
theorem opOK_skip {C : Cx} {Q : Exit → Act → World → Prop} {S : FS SV Atom} {o : Oper} {e : Ev SV Atom} (hd : o.dst = none) (hd' : e.dst = none)
    (H : ∀ T a w ρ h, Slots T a ρ → HSat C.F T.atm ρ h w → Strm C.w0 w → e.agree T S →
      ∃ w' ρ' h', (execOp a.eval o).run C.P w = .ok .skip w' ∧ Ext ρ ρ' ∧ HSat C.F (T.app e).atm ρ' h' w' ∧ Strm C.w0 w') : OpOK C Q S o e := by
  intro T a w K ⟨h1, h2, h3, ρ, h, h4, h5, h6⟩ hag hK
  obtain ⟨w', ρ', h', hr, hx, hs, hst⟩ := H T a w ρ h h5 h4 h3 hag
  unfold Oper.wp
  rw [hr, Oper.upon_skip, hd]
  refine hK _ _ ⟨h1, h2, hst, ρ', h', hs, ?_, fun p hp => hx _ _ (h6 p hp)⟩
  intro t v ht
  simp only [FS.app, hd', reduceCtorEq, if_false] at ht
  obtain ⟨g1, g2⟩ := h5 t v ht
  obtain ⟨g3, g4⟩ := SV.ext hx g2
  exact ⟨by simp only [Act.put]; rw [g1, g3], g4⟩

/-- An operation that only reckons. -/
theorem opOK_pure {C : Cx} {Q : Exit → Act → World → Prop} {S : FS SV Atom} {o : Oper} {e : Ev SV Atom} (hd : o.dst = e.dst) (hb : ∀ d, e.dst = some d → d < C.n) (hw : e.wa = [])
    (H : ∀ T a w ρ h, Slots T a ρ → HSat C.F T.atm ρ h w → e.agree T S → (execOp a.eval o).run C.P w = .ok (.value (e.v.den ρ)) w ∧ e.v.ok ρ) : OpOK C Q S o e := by
  refine opOK_value hd hb (fun T a w ρ h h1 h2 h3 h4 => ?_)
  obtain ⟨k1, k2⟩ := H T a w ρ h h1 h2 h4
  refine ⟨w, ρ, h, k1, Ext.refl ρ, k2, ?_, h3⟩
  have : (T.app e).atm = T.atm := by funext x; simp [FS.app, updA, hw, lk]
  rw [this]; exact h2

/-! ### Operands -/
def opd (get : Nat → Option SV) : Operand → Option SV
  | .tmp t => get t
  | .const v => some (.e (.c (.val v)))
  | .global g => some (.e (.c (.val (.pointer (some ⟨g, 0, none⟩)))))
  | .func f => some (.e (.c (.val (.func (.func f) #[] #[]))))

theorem opd_den {S T : FS SV Atom} {a : Act} {ρ : Env} (h : Slots T a ρ) {x : Operand} {v : SV} (hx : opd S.get x = some v) (ha : ∀ t, x = .tmp t → T.get t = S.get t) : a.eval x = v.den ρ ∧ v.ok ρ := by
  cases x with
  | tmp t =>
    simp only [opd] at hx
    exact h t v ((ha t rfl).trans hx)
  | const u => cases hx; exact ⟨rfl, fun c hc => by simp [SE.cells] at hc; subst hc; trivial⟩
  | global g => cases hx; exact ⟨rfl, fun c hc => by simp [SE.cells] at hc; subst hc; trivial⟩
  | func f => cases hx; exact ⟨rfl, fun c hc => by simp [SE.cells] at hc; subst hc; trivial⟩

theorem mem_tmps {l : List Operand} {t : Nat} (h : Operand.tmp t ∈ l) : t ∈ tmpsOf l := List.mem_filterMap.2 ⟨_, h, rfl⟩

theorem agree_opd {S T : FS SV Atom} {e : Ev SV Atom} {l : List Operand} (hag : e.agree T S) (hl : ∀ t ∈ tmpsOf l, t ∈ e.rs) {x : Operand} (hx : x ∈ l) : ∀ t, x = .tmp t → T.get t = S.get t := by
  intro t ht
  subst ht
  exact hag.1 t (hl t (mem_tmps hx))

/-! ### The heap under an event -/
theorem Obj.lt {w : World} {k : Nat} {o : Obj} (h : w.heap[k]? = some o) : k < w.heap.size := (Array.getElem?_eq_some_iff.1 h).1
theorem heap_alloc_at (w : World) (o : Obj) : (w.alloc o).heap[w.heap.size]? = some o := by
  show (w.heap.push o)[w.heap.size]? = _
  simp
theorem heap_alloc_lt (w : World) (o : Obj) {k : Nat} {o' : Obj} (h : w.heap[k]? = some o') : (w.alloc o).heap[k]? = some o' := by
  have := Obj.lt h
  show (w.heap.push o)[k]? = _
  rw [Array.getElem?_push, if_neg (by omega)]
  exact h

/-- A new block. -/
theorem hsat_new {F : Hp} {atm : Nat → Option Atom} {ρ : Env} {h : Nat → Hp} {w : World} {x c : Nat} {A : Atom} {o : Obj} (hs : HSat F atm ρ h w) (hx : atm x = none)
    (hA : ∀ ρ', Ext ρ ρ' → ρ' x = some (w.heap.size, c) → A.sat ρ' x (fun k => if k = w.heap.size then some o else none)) :
    ∃ ρ' h', HSat F (updA atm [(x, A)]) ρ' h' (w.alloc o) ∧ Ext ρ ρ' ∧ ρ' x = some (w.heap.size, c) := by
  have hρ := hs.new x hx
  have hext : Ext ρ (fun y => if y = x then some (w.heap.size, c) else ρ y) := by
    intro y p hy
    have : y ≠ x := fun e => by rw [e, hρ] at hy; cases hy
    simp [this, hy]
  refine ⟨fun y => if y = x then some (w.heap.size, c) else ρ y, _, hsat_gen (wa := [(x, A)]) (hx := fun _ k => if k = w.heap.size then some o else none) hs hext ?_ ?_ ?_ ?_ ?_, hext, by simp⟩
  · intro z hz
    simp only [updA, lk_cons, lk_nil] at hz
    by_cases e : x = z
    · simp [e] at hz
    · simp only [e, if_false] at hz
      simp [show ¬ z = x from fun q => e q.symm, hs.new z hz]
  · intro z A' hz
    rw [lk_cons, lk_nil] at hz
    split at hz
    · rename_i e; subst e; cases hz
      exact hA _ hext (by simp)
    · cases hz
  · intro y z k o' hy hz _ hne
    simp only [ids, List.mem_singleton] at hy hz
    exact absurd (hy.trans hz.symm) hne
  · intro z k o' _ hk
    by_cases e : k = w.heap.size
    · subst e
      simp only [if_true, Option.some.injEq] at hk
      subst hk
      exact ⟨heap_alloc_at w _, .inr (Nat.le_refl _)⟩
    · simp [e] at hk
  · intro k o' hk _
    exact heap_alloc_lt w o hk

theorem atom_blk {F : Hp} {atm : Nat → Option Atom} {ρ : Env} {h : Nat → Hp} {w : World} {x : Nat} {t : TypeId} {cs : List SC} (hs : HSat F atm ρ h w) (hx : atm x = some (.blk t cs)) :
    w.heap[((ρ x).getD (0, 0)).1]? = some (.cells (cs.map (SC.den ρ)).toArray t (0, 0)) ∧ (∀ c ∈ cs, c.ok ρ) ∧ allOne cs = true ∧ (ρ x).isSome = true ∧ h x ((ρ x).getD (0, 0)).1 = some (.cells (cs.map (SC.den ρ)).toArray t (0, 0)) := by
  obtain ⟨g, c, k1, k2, k3, k4⟩ := hs.sat x _ hx
  simp only [k1, Option.getD_some, Option.isSome_some]
  exact ⟨(hs.own x g _ k2).1, k3, k4, trivial, k2⟩

/-- A block of one's own turns: the same block, another content. -/
theorem hsat_turn {F : Hp} {atm : Nat → Option Atom} {ρ : Env} {h : Nat → Hp} {w w' : World} {x g : Nat} {A : Atom} {o o' : Obj} (hs : HSat F atm ρ h w) (hold : h x g = some o) (hne : atm x ≠ none)
    (hw1 : w'.heap[g]? = some o') (hw2 : ∀ k, k ≠ g → w'.heap[k]? = w.heap[k]?) (hA : A.sat ρ x (fun k => if k = g then some o' else none)) :
    ∃ h', HSat F (updA atm [(x, A)]) ρ h' w' := by
  refine ⟨_, hsat_gen (wa := [(x, A)]) (hx := fun _ k => if k = g then some o' else none) hs (Ext.refl ρ) ?_ ?_ ?_ ?_ ?_⟩
  · intro z hz
    simp only [updA, lk_cons, lk_nil] at hz
    by_cases e : x = z
    · simp [e] at hz
    · simp only [e, if_false] at hz
      exact hs.new z hz
  · intro z A' hz
    rw [lk_cons, lk_nil] at hz
    split at hz
    · rename_i e; subst e; cases hz; exact hA
    · cases hz
  · intro y z k o'' hy hz _ hne'
    simp only [ids, List.mem_singleton] at hy hz
    exact absurd (hy.trans hz.symm) hne'
  · intro z k o'' hz hk
    simp only [ids, List.mem_singleton] at hz
    by_cases e : k = g
    · subst e
      simp only [if_true, Option.some.injEq] at hk
      subst hk
      exact ⟨hw1, .inl ⟨x, by simp [ids], o, hold⟩⟩
    · simp [e] at hk
  · intro k o'' hk hno
    have hkg : k ≠ g := fun e => by
      have := hno x (by simp [ids])
      rw [e, hold] at this; cases this
    rw [hw2 k hkg]; exact hk

theorem strm_alloc {w0 w : World} (h : Strm w0 w) (o : Obj) : Strm w0 (w.alloc o) := ⟨h.os, h.tape, h.output, by have := h.size; simp; omega⟩

end Go.Sy
