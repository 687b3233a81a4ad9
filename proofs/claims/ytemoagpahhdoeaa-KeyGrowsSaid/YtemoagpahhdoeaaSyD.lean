/- Regions run symbolically: what the run tells is what every order of the region's operations brings about. No condition. -/
import Derived.Test.YtemoagpahhdoeaaSyCf
namespace Go.Sy
set_option linter.unusedSimpArgs false
set_option linter.unusedVariables false

def put {α : Type} : List (Nat × α) → Nat → α → List (Nat × α)
  | [], k, v => [(k, v)]
  | (j, u) :: r, k, v => match Nat.beq j k with
    | true => (k, v) :: r
    | false => (j, u) :: put r k v
def del {α : Type} : List (Nat × α) → Nat → List (Nat × α)
  | [], _ => []
  | (j, u) :: r, k => match Nat.beq j k with
    | true => del r k
    | false => (j, u) :: del r k
def putAll {α : Type} (l : List (Nat × α)) : List (Nat × α) → List (Nat × α)
  | [] => l
  | (k, v) :: r => put (putAll l r) k v

theorem lk_put {α : Type} (l : List (Nat × α)) (k : Nat) (v : α) (j : Nat) : lk (put l k v) j = if k = j then some v else lk l j := by
  induction l with
  | nil => simp [put, lk_cons, lk_nil]
  | cons p r ih =>
    obtain ⟨i, u⟩ := p
    simp only [put]
    cases h : Nat.beq i k with
    | true =>
      have h := Nat.eq_of_beq_eq_true h
      subst h
      simp only [lk_cons]
      by_cases e : i = j <;> simp [e]
    | false =>
      have h := Nat.ne_of_beq_eq_false h
      simp only [lk_cons, ih]
      by_cases e : i = j
      · subst e; simp [show ¬ k = i from fun q => h q.symm]
      · simp [e]
theorem lk_del {α : Type} (l : List (Nat × α)) (k j : Nat) : lk (del l k) j = if k = j then none else lk l j := by
  induction l with
  | nil => simp [del, lk_nil]
  | cons p r ih =>
    obtain ⟨i, u⟩ := p
    simp only [del]
    cases h : Nat.beq i k with
    | true =>
      have h := Nat.eq_of_beq_eq_true h
      subst h
      simp only [ih, lk_cons]
      by_cases e : i = j <;> simp [e]
    | false =>
      have h := Nat.ne_of_beq_eq_false h
      simp only [lk_cons, ih]
      by_cases e : i = j
      · subst e; simp [show ¬ k = i from fun q => h q.symm]
      · simp [e]
theorem lk_putAll {α : Type} (l wa : List (Nat × α)) (j : Nat) : lk (putAll l wa) j = match lk wa j with | some c => some c | none => lk l j := by
  induction wa with
  | nil => rfl
  | cons p r ih =>
    obtain ⟨i, u⟩ := p
    simp only [putAll, lk_put, lk_cons, ih]
    by_cases e : i = j <;> simp [e]

/-! ### The same, with what follows: so that a state is written out as it is made -/
def putK {α : Type} : List (Nat × α) → Nat → α → (List (Nat × α) → Prop) → Prop
  | [], k, v, c => c [(k, v)]
  | (j, u) :: r, k, v, c => match Nat.beq j k with
    | true => c ((k, v) :: r)
    | false => putK r k v fun r' => c ((j, u) :: r')
def delK {α : Type} : List (Nat × α) → Nat → (List (Nat × α) → Prop) → Prop
  | [], _, c => c []
  | (j, u) :: r, k, c => match Nat.beq j k with
    | true => delK r k c
    | false => delK r k fun r' => c ((j, u) :: r')
def putAllK {α : Type} (l : List (Nat × α)) : List (Nat × α) → (List (Nat × α) → Prop) → Prop
  | [], c => c l
  | (k, v) :: r, c => putAllK l r fun l' => putK l' k v c
theorem putK_eq {α : Type} : ∀ (l : List (Nat × α)) (k : Nat) (v : α) (c : List (Nat × α) → Prop), putK l k v c = c (put l k v)
  | [], k, v, c => rfl
  | (j, u) :: r, k, v, c => by
    simp only [putK, put]
    cases Nat.beq j k with
    | true => rfl
    | false => exact putK_eq r k v _
theorem delK_eq {α : Type} : ∀ (l : List (Nat × α)) (k : Nat) (c : List (Nat × α) → Prop), delK l k c = c (del l k)
  | [], k, c => rfl
  | (j, u) :: r, k, c => by
    simp only [delK, del]
    cases Nat.beq j k with
    | true => exact delK_eq r k c
    | false => exact delK_eq r k _
theorem putAllK_eq {α : Type} (l : List (Nat × α)) : ∀ (wa : List (Nat × α)) (c : List (Nat × α) → Prop), putAllK l wa c = c (putAll l wa)
  | [], c => rfl
  | (k, v) :: r, c => by
    simp only [putAllK, putAll]
    rw [putAllK_eq l r, putK_eq]

def frcC : SC → (SC → Prop) → Prop
  | .val v, c => c (.val v)
  | .ptr x o, c => c (.ptr x o)
  | .sli x n, c => c (.sli x n)
  | .fn f l m, c => c (.fn f l m)
  | .mp x, c => c (.mp x)
def frcCs : List SC → (List SC → Prop) → Prop
  | [], c => c []
  | a :: r, c => frcC a fun a' => frcCs r fun r' => c (a' :: r')
def frcE : SE → (SE → Prop) → Prop
  | .c x, c => frcC x fun x' => c (.c x')
  | .agg cs, c => frcCs cs fun cs' => c (.agg cs')
  | .arr xs, c => c (.arr xs)
def frcEs : List SE → (List SE → Prop) → Prop
  | [], c => c []
  | a :: r, c => frcE a fun a' => frcEs r fun r' => c (a' :: r')
def frcV : SV → (SV → Prop) → Prop
  | .e u, c => frcE u fun u' => c (.e u')
  | .tup l, c => frcEs l fun l' => c (.tup l')
def frcA : Atom → (Atom → Prop) → Prop
  | .blk e cs, c => frcCs cs fun cs' => c (.blk e cs')
  | .row e z n xs, c => c (.row e z n xs)
  | .mpb k m, c => c (.mpb k m)
  | .gone, c => c .gone
def frcW : List (Nat × Atom) → (List (Nat × Atom) → Prop) → Prop
  | [], c => c []
  | (k, a) :: r, c => frcA a fun a' => frcW r fun r' => c ((k, a') :: r')
def frcN : List Nat → (List Nat → Prop) → Prop
  | [], c => c []
  | a :: r, c => frcN r fun r' => c (a :: r')
theorem frcC_eq (a : SC) (c : SC → Prop) : frcC a c = c a := by cases a <;> rfl
theorem frcCs_eq : ∀ (l : List SC) (c : List SC → Prop), frcCs l c = c l
  | [], c => rfl
  | a :: r, c => by simp only [frcCs, frcC_eq]; exact frcCs_eq r _
theorem frcE_eq (a : SE) (c : SE → Prop) : frcE a c = c a := by cases a <;> simp only [frcE, frcC_eq, frcCs_eq]
theorem frcEs_eq : ∀ (l : List SE) (c : List SE → Prop), frcEs l c = c l
  | [], c => rfl
  | a :: r, c => by simp only [frcEs, frcE_eq]; exact frcEs_eq r _
theorem frcV_eq (a : SV) (c : SV → Prop) : frcV a c = c a := by cases a <;> simp only [frcV, frcE_eq, frcEs_eq]
theorem frcA_eq (a : Atom) (c : Atom → Prop) : frcA a c = c a := by cases a <;> simp only [frcA, frcCs_eq]
theorem frcW_eq : ∀ (l : List (Nat × Atom)) (c : List (Nat × Atom) → Prop), frcW l c = c l
  | [], c => rfl
  | (k, a) :: r, c => by simp only [frcW, frcA_eq]; exact frcW_eq r _
theorem frcN_eq : ∀ (l : List Nat) (c : List Nat → Prop), frcN l c = c l
  | [], c => rfl
  | a :: r, c => by simp only [frcN]; exact frcN_eq r _

/-- A symbolic state as lists: slots, atoms, the Bools that are known. -/
structure SS where
  t : List (Nat × SV)
  h : List (Nat × Atom)
  kn : List (Nat × Bool)

def SS.fn (s : SS) : FS SV Atom := ⟨lk s.t, lk s.h⟩
def SS.kno (s : SS) : Operand → Option Bool
  | .tmp t => lk s.kn t
  | .const (.bool b) => some b
  | _ => none
def SS.opd (s : SS) (x : Operand) : Option SV :=
  match s.kno x with
  | some b => some (sval (.bool b))
  | none => Sy.opd (lk s.t) x
def KN (s : SS) : Prop := ∀ t b, lk s.kn t = some b → lk s.t t = some (sval (.bool b))

theorem opd_kn {s : SS} (hk : KN s) {x : Operand} {v : SV} (h : s.opd x = some v) : Sy.opd s.fn.get x = some v := by
  unfold SS.opd at h
  split at h
  · rename_i b hb
    cases h
    cases x with
    | tmp t => exact hk t b hb
    | const u => cases u <;> simp only [SS.kno, reduceCtorEq] at hb; cases hb; rfl
    | global g => simp [SS.kno] at hb
    | func f => simp [SS.kno] at hb
  · exact h

def SS.app (s : SS) (dst : Option Nat) (k : Option Bool) (r : Out) : SS where
  t := match dst with | some d => put s.t d r.v | none => s.t
  h := putAll s.h r.wa
  kn := match dst with | some d => (match k with | some b => put s.kn d b | none => del s.kn d) | none => s.kn

def SS.appK : SS → Option Nat → Option Bool → Out → (SS → Prop) → Prop
  | ⟨t, h, kn⟩, dst, k, ⟨_, v, wa, _⟩, c => frcV v fun v => frcW wa fun wa => putAllK h wa fun h' => match dst with
    | none => c ⟨t, h', kn⟩
    | some d => putK t d v fun t' => match k with
      | some b => putK kn d b fun kn' => c ⟨t', h', kn'⟩
      | none => delK kn d fun kn' => c ⟨t', h', kn'⟩
theorem appK_eq (s : SS) (dst : Option Nat) (k : Option Bool) (r : Out) (c : SS → Prop) : s.appK dst k r c = c (s.app dst k r) := by
  obtain ⟨t, h, kn⟩ := s
  obtain ⟨cd, v, wa, ra⟩ := r
  unfold SS.appK SS.app
  simp only [frcV_eq, frcW_eq, putAllK_eq]
  cases dst with
  | none => rfl
  | some d =>
    simp only [putK_eq, delK_eq]
    cases k <;> rfl

theorem app_fn (s : SS) (dst : Option Nat) (k : Option Bool) (r : Out) (rs : List Nat) : (s.app dst k r).fn = s.fn.app (r.ev dst rs) := by
  refine FS.ext' (fun t => ?_) (fun x => ?_)
  · simp only [SS.fn, SS.app, FS.app, Out.ev]
    cases dst with
    | none => simp
    | some d => simp [lk_put]
  · simp only [SS.fn, SS.app, FS.app, Out.ev, lk_putAll]
    rfl

theorem app_KN {s : SS} (h : KN s) (dst : Option Nat) (k : Option Bool) (r : Out) (hk : ∀ b, k = some b → r.v = sval (.bool b)) : KN (s.app dst k r) := by
  intro t b hb
  simp only [SS.app] at hb ⊢
  cases dst with
  | none => exact h t b hb
  | some d =>
    simp only [lk_put]
    cases k with
    | none =>
      simp only [lk_del] at hb
      split at hb
      · cases hb
      · rename_i hne; simp [hne, h t b hb]
    | some c =>
      simp only [lk_put] at hb
      split at hb
      · rename_i he; cases hb; simp only [he, if_true]; rw [hk _ rfl]
      · rename_i hne; simp [hne, h t b hb]

/-! ### What a call of a Go function does -/
/-- What a call may come to: one thing, or one of two by a Bool. -/
inductive Alt where
  | one (r : Out)
  | two (b : Bool) (x y : Alt)
def Alt.has : Alt → Out → Prop
  | .one r, q => q = r
  | .two b x y, q => (b = true ∧ x.has q) ∨ (b = false ∧ y.has q)
noncomputable def Alt.run (a : Alt) (k : Out → Prop) : Prop := Alt.rec (motive := fun _ => Prop) (fun r => k r) (fun b _ _ p q => (b = true → p) ∧ (b = false → q)) a
theorem Alt.run_ok {k : Out → Prop} : ∀ {a : Alt}, a.run k → ∃ r, a.has r ∧ k r
  | .one r, h => ⟨r, rfl, h⟩
  | .two b x y, h => by
    cases hb : b with
    | true => obtain ⟨r, h1, h2⟩ := Alt.run_ok (h.1 hb); exact ⟨r, .inl ⟨rfl, h1⟩, h2⟩
    | false => obtain ⟨r, h1, h2⟩ := Alt.run_ok (h.2 hb); exact ⟨r, .inr ⟨rfl, h1⟩, h2⟩
abbrev SpecG := Hp → (Nat → Option Atom) → Nat → List SV → Option Alt

structure SpecOK (P : Program) (f : FuncId) (g : SpecG) : Prop where
  body : ∃ fn c, P.funcs[f]? = some fn ∧ fn.body = some c ∧ (fn.name == "runtime.NumGoroutine") = false
  local_ : ∀ F atm atm' x args a r, g F atm x args = some a → a.has r → (∀ y ∈ r.ra, atm' y = atm y) → (∀ y ∈ ids r.wa, atm' y = atm y) → ∃ a', g F atm' x args = some a' ∧ a'.has r
  calls : ∀ F atm x args a r, g F atm x args = some a → a.has r → r.cond.holds → ∀ ρ h w, HSat F atm ρ h w → (∀ v ∈ args, v.ok ρ) →
    Calls P f (args.map (SV.den ρ)).toArray w fun e w' => ∃ ρ' h', e = .returned (r.v.den ρ') ∧ Ext ρ ρ' ∧ r.v.ok ρ' ∧ HSat F (updA atm r.wa) ρ' h' w' ∧ Strm w w'

abbrev Specs := FuncId → Option SpecG
def SpecsOK (P : Program) (sp : Specs) : Prop := ∀ f g, sp f = some g → SpecOK P f g

def opds (s : SS) : List Operand → Option (List SV)
  | [] => some []
  | x :: r => match s.opd x, opds s r with
    | some v, some l => some (v :: l)
    | _, _ => none

theorem opds_den {s : SS} (hk : KN s) {T : FS SV Atom} {a : Act} {ρ : Env} (h : Slots T a ρ) : ∀ (l : List Operand) (vs : List SV), opds s l = some vs → (∀ x ∈ l, ∀ t, x = .tmp t → T.get t = s.fn.get t) →
    l.map a.eval = vs.map (SV.den ρ) ∧ ∀ v ∈ vs, v.ok ρ
  | [], vs, hv, _ => by cases hv; simp
  | x :: r, vs, hv, hag => by
    simp only [opds] at hv
    split at hv
    · rename_i v l h1 h2
      cases hv
      obtain ⟨p1, p2⟩ := opd_den h (opd_kn hk h1) (hag x (by simp))
      obtain ⟨q1, q2⟩ := opds_den hk h r l h2 (fun y hy => hag y (by simp [hy]))
      exact ⟨by simp [p1, q1], fun v hv => by rcases List.mem_cons.1 hv with rfl | hv; exact p2; exact q2 v hv⟩
    · cases hv

theorem strm_trans {a b c : World} (h : Strm a b) (k : Strm b c) : Strm a c := ⟨k.os.trans h.os, k.tape.trans h.tape, k.output.trans h.output, Nat.le_trans h.size k.size⟩

theorem op_call {C : Cx} {Q : Exit → Act → World → Prop} {s : SS} (hk : KN s) {o : Oper} {e : Ev SV Atom} (hb : ∀ d, e.dst = some d → d < C.n) {P : Program} (hP : C.P = P) {f : FuncId} {g : SpecG} (hg : SpecOK P f g) {args : Array Operand} {ats : Array TypeId}
    (ho : o.op = .call { callee := .value (.func f), args, argTypes := ats }) (hd : o.dst = e.dst) (hr : ∀ t ∈ tmpsOf args.toList, t ∈ e.rs) {vs : List SV} (hvs : opds s args.toList = some vs) {x : Nat} {al : Alt} {r : Out} (hgr : g C.F s.fn.atm x vs = some al) (hal : al.has r) (hc : r.cond.holds)
    (he : e.v = r.v) (hw : e.wa = r.wa) (hra : e.ra = r.ra) : OpOK C Q s.fn o e := by
  intro T a w K ⟨h1, h2, h3, ρ, h, h4, h5, h6⟩ hag hK
  obtain ⟨al', hg', hal'⟩ := hg.local_ C.F s.fn.atm T.atm x vs al r hgr hal (fun y hy => hag.2.1 y (hra ▸ hy)) (fun y hy => hag.2.2 y (hw ▸ hy))
  obtain ⟨p1, p2⟩ := opds_den hk h5 args.toList vs hvs (fun x hx => agree_opd hag hr hx)
  have hcalls := hg.calls C.F T.atm x vs al' r hg' hal' hc ρ h w h4 p2
  obtain ⟨fn, c, b1, b2, b3⟩ := hg.body
  subst hP
  have hargs : args.map a.eval = (vs.map (SV.den ρ)).toArray := by
    apply Array.toList_inj.1
    simp [p1]
  have hrun : (execOp a.eval o).run C.P w = .ok (.enter f (vs.map (SV.den ρ)).toArray) w := by
    simp only [execOp, ho, resolve, Act.eval, Deferred.ofValue, Sem.run_bind, Sem.run_pure, Result.andThen_ok, invoke, callFunc, run_program, b1, b2, b3]
    have h2 : (args.map fun x => a.eval x) = (vs.map (SV.den ρ)).toArray := hargs
    simp [hargs]
  unfold Oper.wp
  rw [hrun, Oper.upon_enter]
  refine hcalls.mono ?_
  rintro e' w' ⟨ρ', h', rfl, hx, hv, hs, hst⟩
  simp only
  rw [hd, ← he]
  obtain ⟨q1, q2⟩ := size_put a e.dst (e.v.den ρ')
  refine hK _ _ ⟨q1.trans h1, q2.trans h2, strm_trans h3 hst, ρ', h', ?_, slots_put (C := C) h5 hx (he ▸ hv) (fun d hd => by rw [h1]; exact hb d hd), fun p hp => hx _ _ (h6 p hp)⟩
  have : (T.app e).atm = updA T.atm r.wa := by simp only [FS.app, hw]
  rw [this]
  exact hs

/-- A value that a function was bound to, as an argument. -/
def vSV : Value → SV
  | .agg cs => .e (.agg (cs.toList.map SC.val))
  | v => sval v
theorem vSV_den (ρ : Env) (v : Value) : (vSV v).den ρ = v := by
  cases v <;> try rfl
  rename_i cs
  simp only [vSV, SV.den, SE.den, List.map_map]
  have : (SC.den ρ ∘ SC.val) = id := by funext v; rfl
  rw [this]; simp
theorem vSV_ok (ρ : Env) (v : Value) : (vSV v).ok ρ := by
  have h : ∀ u : Value, (sval u).ok ρ := fun u c hc => by simp [SE.cells] at hc; subst hc; trivial
  cases v <;> first | exact h _ | skip
  rename_i cs
  intro c hc
  simp only [SE.cells, List.mem_map] at hc
  obtain ⟨u, _, rfl⟩ := hc
  trivial

theorem op_call_fn {C : Cx} {Q : Exit → Act → World → Prop} {s : SS} (hk : KN s) {o : Oper} {e : Ev SV Atom} (hb : ∀ d, e.dst = some d → d < C.n) {P : Program} (hP : C.P = P) {f : FuncId} {g : SpecG} (hg : SpecOK P f g) {y : Operand} {first : List Value} {caps : List (Nat × Nat)} {args : Array Operand} {ats : Array TypeId}
    (ho : o.op = .call { callee := .value y, args, argTypes := ats }) (hd : o.dst = e.dst) (hr : ∀ t ∈ tmpsOf (y :: args.toList), t ∈ e.rs) {q : SC} (hy : s.opd y = some (.e (.c q))) (hq : q = .fn f first caps ∨ (q = .val (.func (.func f) first.toArray #[]) ∧ caps = [])) {vs : List SV} (hvs : opds s args.toList = some vs) {x : Nat} {al : Alt} {r : Out}
    (hgr : g C.F s.fn.atm x (first.map vSV ++ vs ++ caps.map fun p => .e (.c (.ptr p.1 p.2))) = some al) (hal : al.has r) (hc : r.cond.holds) (he : e.v = r.v) (hw : e.wa = r.wa) (hra : e.ra = r.ra) : OpOK C Q s.fn o e := by
  intro T a w K ⟨h1, h2, h3, ρ, h, h4, h5, h6⟩ hag hK
  obtain ⟨al', hg', hal'⟩ := hg.local_ C.F s.fn.atm T.atm x _ al r hgr hal (fun y hy => hag.2.1 y (hra ▸ hy)) (fun y hy => hag.2.2 y (hw ▸ hy))
  obtain ⟨p1, p2⟩ := opds_den hk h5 args.toList vs hvs (fun x hx => agree_opd hag hr (by simp [hx]))
  obtain ⟨y1, y2⟩ := opd_den h5 (opd_kn hk hy) (agree_opd hag hr (by simp))
  have y1' : a.eval y = .func (.func f) first.toArray (caps.map fun p => adr ρ p.1 p.2).toArray := by
    rcases hq with rfl | ⟨rfl, rfl⟩ <;> exact y1
  have y2' : ∀ p ∈ caps, (ρ p.1).isSome = true := by
    rcases hq with rfl | ⟨rfl, rfl⟩
    · exact y2 (.fn f first caps) (by simp [SE.cells])
    · intro p hp; simp at hp
  have hok : ∀ v ∈ first.map vSV ++ vs ++ caps.map fun p => SV.e (.c (.ptr p.1 p.2)), v.ok ρ := fun v hv => by
    rcases List.mem_append.1 hv with hv | hv
    · rcases List.mem_append.1 hv with hv | hv
      · obtain ⟨u, _, rfl⟩ := List.mem_map.1 hv
        exact vSV_ok ρ u
      · exact p2 v hv
    · obtain ⟨p, hp, rfl⟩ := List.mem_map.1 hv
      intro c hc
      simp [SE.cells] at hc; subst hc
      exact y2' p hp
  have hcalls := hg.calls C.F T.atm x _ al' r hg' hal' hc ρ h w h4 hok
  obtain ⟨fn, c, b1, b2, b3⟩ := hg.body
  subst hP
  have hargs : first.toArray ++ args.map a.eval ++ (caps.map fun p => adr ρ p.1 p.2).toArray = ((first.map vSV ++ vs ++ caps.map fun p => SV.e (.c (.ptr p.1 p.2))).map (SV.den ρ)).toArray := by
    apply Array.toList_inj.1
    have e1 : (SV.den ρ ∘ vSV) = id := by funext v; exact vSV_den ρ v
    have e2 : (SV.den ρ ∘ fun p : Nat × Nat => SV.e (.c (.ptr p.1 p.2))) = fun p => adr ρ p.1 p.2 := by funext p; rfl
    simp [p1, e1, e2]
  have hrun : (execOp a.eval o).run C.P w = .ok (.enter f ((first.map vSV ++ vs ++ caps.map fun p => SV.e (.c (.ptr p.1 p.2))).map (SV.den ρ)).toArray) w := by
    rw [← hargs]
    simp only [execOp, ho, resolve, y1', Deferred.ofValue, Sem.run_bind, Sem.run_pure, Result.andThen_ok, invoke, callFunc, run_program, b1, b2, b3]
    simp
  unfold Oper.wp
  rw [hrun, Oper.upon_enter]
  refine hcalls.mono ?_
  rintro e' w' ⟨ρ', h', rfl, hx, hv, hs, hst⟩
  simp only
  rw [hd, ← he]
  obtain ⟨q1, q2⟩ := size_put a e.dst (e.v.den ρ')
  refine hK _ _ ⟨q1.trans h1, q2.trans h2, strm_trans h3 hst, ρ', h', ?_, slots_put (C := C) h5 hx (he ▸ hv) (fun d hd => by rw [h1]; exact hb d hd), fun p hp => hx _ _ (h6 p hp)⟩
  have : (T.app e).atm = updA T.atm r.wa := by simp only [FS.app, hw]
  rw [this]
  exact hs

/-! ### Operations, read -/
def sLoad (T : TT) (F : Hp) (s : SS) (t : TypeId) (a : Operand) : Option Out :=
  match s.opd a with
  | some (.e (.c (.ptr x off))) => match lk s.h x, T t with
    | some (.blk _ cs), some i => if i.agg then (if off + i.size ≤ cs.length then some ⟨.t, .e (.agg ((cs.drop off).take i.size)), [], [x]⟩ else none)
      else (match cs[off]? with | some c => some ⟨.t, .e (.c c), [], [x]⟩ | none => none)
    | some (.row _ sz n xs), some i => match i.big with
      | true => if off = 0 ∧ sz = 1 ∧ i.size = n ∧ i.agg = true then some ⟨.t, .e (.arr xs), [], [x]⟩ else none
      | false => match Nat.beq i.zero.length i.size with
      | true => match i.agg with
        | true => some ⟨.p (cCells xs off i.zero), .e (.agg (rdR xs off i.zero 0)), [], [x]⟩
        | false => match rdR xs off i.zero 0 with
          | [u] => some ⟨.p (cCells xs off i.zero), .e (.c u), [], [x]⟩
          | _ => none
      | false => none
    | _, _ => none
  | some (.e (.c (.val (.pointer (some A))))) => match T t with
    | some i => match Nat.beq i.zero.length i.size with
      | true => match i.agg with
        | true => some ⟨.p (cRead F A i.zero), .e (.agg (rdT F A i.zero 0)), [], []⟩
        | false => match rdT F A i.zero 0 with
          | [u] => some ⟨.p (cRead F A i.zero), .e (.c u), [], []⟩
          | _ => none
      | false => none
    | none => none
  | _ => none
def sStore (T : TT) (s : SS) (t : TypeId) (a v : Operand) : Option Out :=
  match s.opd a, s.opd v with
  | some (.e (.c (.ptr x off))), some (.e (.arr vs)) => match lk s.h x, T t with
    | some (.row te sz n _), some i => if off = 0 ∧ sz = 1 ∧ i.size = n then some ⟨.p (cArr vs n), sval undef, [(x, .row te 1 n vs)], []⟩ else none
    | _, _ => none
  | some (.e (.c (.ptr x off))), some (.e u) => match lk s.h x, T t with
    | some (.blk te cs), some i => if u.cells.length = i.size then (if off + i.size ≤ cs.length then (if allOne u.cells = true then some ⟨.t, sval undef, [(x, .blk te (setCs cs off u.cells))], []⟩ else none) else none) else none
    | some (.row te sz n xs), some i => match allVal u.cells, Nat.beq u.cells.length i.size, allOne u.cells with
      | some vs, true, true => some ⟨.p (cFit off i.size xs), sval undef, [(x, .row te sz n (setV xs off vs))], []⟩
      | _, _, _ => none
    | _, _ => none
  | _, _ => none
def sAlloc (T : TT) (s : SS) (x : Nat) (t : TypeId) : Option Out :=
  match T t, lk s.h x with
  | some i, none => match i.big with
    | true => match Nat.ble i.size 1048576 with
      | true => some ⟨.t, .e (.c (.ptr x 0)), [(x, .row t 1 i.size (List.replicate i.size (.int .i64 0)))], []⟩
      | false => none
    | false => if allOne (i.zero.map SC.val) = true then some ⟨.t, .e (.c (.ptr x 0)), [(x, .blk t (i.zero.map SC.val))], []⟩ else none
  | _, _ => none
def sBox (T : TT) (s : SS) (x : Nat) (t : TypeId) (v : Operand) : Option Out :=
  match s.opd v, lk s.h x with
  | some (.e (.arr xs)), none => match T t with
    | some i => match Nat.ble i.size 1048576 with
      | true => some ⟨.p (cArr xs i.size), .e (.c (.ptr x 0)), [(x, .row t 1 i.size xs)], []⟩
      | false => none
    | none => none
  | some (.e u), none => if allOne u.cells = true then some ⟨.t, .e (.c (.ptr x 0)), [(x, .blk t u.cells)], []⟩ else none
  | _, _ => none
def sBin (T : TT) (s : SS) (op : BinOp) (t : TypeId) (x y : Operand) : Option Out :=
  match s.opd x, s.opd y with
  | some (.e (.c (.val (.int k a)))), some (.e (.c (.val (.int k' b)))) => match ibin op k k' a b with
    | some (c, v) => some ⟨c, sval v, [], []⟩
    | none => none
  | some (.e (.c (.val (.bool p)))), some (.e (.c (.val (.bool q)))) => match T t with
    | some i => match i.bl, op with
      | true, .eql => some ⟨.t, sval (.bool (bEq p q)), [], []⟩
      | true, .neq => some ⟨.t, sval (.bool (!bEq p q)), [], []⟩
      | _, _ => none
    | none => none
  | some (.e (.agg xs)), some (.e (.agg ys)) => match T t, eqInts xs ys with
    | some i, some q => match i.eqk, Nat.beq i.flds.length xs.length, Nat.beq i.flds.length ys.length, op with
      | true, true, true, .eql => some ⟨.t, sval (.bool q), [], []⟩
      | true, true, true, .neq => some ⟨.t, sval (.bool !q), [], []⟩
      | _, _, _, _ => none
    | _, _ => none
  | _, _ => none
def sNot (s : SS) (x : Operand) : Option Out :=
  match s.opd x with
  | some (.e (.c (.val (.bool b)))) => some ⟨.t, sval (.bool !b), [], []⟩
  | _ => none
def sPick (s : SS) (c x y : Operand) : Option Out :=
  match s.kno c with
  | some true => (s.opd x).map fun v => ⟨.t, v, [], []⟩
  | some false => (s.opd y).map fun v => ⟨.t, v, [], []⟩
  | none => none
def sFieldAddr (T : TT) (s : SS) (st : TypeId) (x : Operand) (f : Nat) : Option Out :=
  match s.opd x, T st with
  | some (.e (.c (.ptr y off))), some i => match i.flds[f]? with
    | some (fo, ft) => match T ft with
      | some j => if j.size = 0 then none else some ⟨.t, .e (.c (.ptr y (off + fo))), [], []⟩
      | none => none
    | none => none
  | some (.e (.c (.val (.pointer (some A))))), some i => match i.flds[f]? with
    | some (fo, ft) => match T ft with
      | some j => if j.size = 0 then none else some ⟨.t, sval (.pointer (some (A.add fo))), [], []⟩
      | none => none
    | none => none
  | _, _ => none
def sField (T : TT) (s : SS) (st : TypeId) (x : Operand) (f : Nat) : Option Out :=
  match s.opd x, T st with
  | some (.e (.agg cs)), some i => match i.flds[f]? with
    | some (fo, ft) => match T ft with
      | some j => if j.agg then some ⟨.t, .e (.agg ((cs.drop fo).take j.size)), [], []⟩ else (match cs[fo]? with | some c => some ⟨.t, .e (.c c), [], []⟩ | none => none)
      | none => none
    | none => none
  | _, _ => none
def sExtract (s : SS) (x : Operand) (n : Nat) : Option Out :=
  match s.opd x with
  | some (.tup l) => match l[n]? with | some u => some ⟨.t, .e u, [], []⟩ | none => none
  | _ => none
def sMinMax (s : SS) (b : Builtin) (x y : Operand) : Option Out :=
  match s.opd x, s.opd y with
  | some (.e (.c (.val (.int k a)))), some (.e (.c (.val (.int _ c)))) => match b with
    | .min => some ⟨.t, sval (.int k (mn a c)), [], []⟩
    | .max => some ⟨.t, sval (.int k (mx a c)), [], []⟩
    | _ => none
  | _, _ => none
def sNeg (s : SS) (x : Operand) : Option Out :=
  match s.opd x with
  | some (.e (.c (.val (.int k n)))) => some ⟨.t, sval (.int k (isub k 0 n)), [], []⟩
  | _ => none
def sXor (s : SS) (x : Operand) : Option Out :=
  match s.opd x with
  | some (.e (.c (.val (.int k n)))) => some ⟨.t, sval (.int k (ixor k (if k.signed then -1 else k.max) n)), [], []⟩
  | _ => none
def sConv (T : TT) (s : SS) (st t : TypeId) (x : Operand) : Option Out :=
  match s.opd x, T st, T t with
  | some (.e (.c (.val (.int _ n)))), some j, some i => match j.ik, i.ik with
    | some _, some k => some ⟨.t, sval (.int k (iconv k n)), [], []⟩
    | _, _ => none
  | _, _, _ => none
def sNil (s : SS) (x : Operand) : Option Out :=
  match s.opd x with
  | some (.e (.c (.ptr y off))) => some ⟨.t, .e (.c (.ptr y off)), [], []⟩
  | some (.e (.c (.val (.pointer (some A))))) => some ⟨.t, sval (.pointer (some A)), [], []⟩
  | _ => none
def sIdxAddr (T : TT) (s : SS) (t : TypeId) (x ix : Operand) : Option Out :=
  match s.opd x, s.opd ix, T t with
  | some (.e (.c (.ptr y off))), some (.e (.c (.val (.int _ mm)))), some i => match i.big with
    | true => match i.arn with
      | some (et, n) => match T et with
        | some j => some ⟨.p (cRow n mm), .e (.c (.ptr y (off + elOff mm j.size))), [], []⟩
        | none => none
      | none => none
    | false => match mm with
      | .ofNat m => match i.arr[m]? with
        | some (eo, _) => some ⟨.t, .e (.c (.ptr y (off + eo))), [], []⟩
        | none => none
      | _ => none
  | some (.e (.c (.val (.slice A n _)))), some (.e (.c (.val (.int _ m)))), some i => match i.el with
    | some et => match T et with
      | some j => some ⟨.p (cIdx A n m), sval (.pointer (some (elAt A m j.size))), [], []⟩
      | none => none
    | none => none
  | some (.e (.c (.sli y n))), some (.e (.c (.val (.int _ m)))), some i => match i.el with
    | some et => match T et with
      | some j => some ⟨.p (cRow n m), .e (.c (.ptr y (elOff m j.size))), [], []⟩
      | none => none
    | none => none
  | _, _, _ => none
def sIndex (T : TT) (s : SS) (t : TypeId) (x ix : Operand) : Option Out :=
  match s.opd x, s.opd ix, T t with
  | some (.e (.agg cs)), some (.e (.c (.val (.int _ (.ofNat m))))), some i => match i.arr[m]? with
    | some (eo, et) => match T et with
      | some j => match j.agg with
        | true => some ⟨.t, .e (.agg ((cs.drop eo).take j.size)), [], []⟩
        | false => match cs[eo]? with
          | some c => some ⟨.t, .e (.c c), [], []⟩
          | none => none
      | none => none
    | none => none
  | _, _, _ => none
def infoT (T : TT) (pl : List (Nat × TypeId)) : Bool := pl.all fun p => (T p.2).isSome
def sBuild (T : TT) (s : SS) (t : TypeId) (ps : List (Nat × Operand)) : Option Out :=
  match T t with
  | some i => match infoT T i.flds, allOne (i.zero.map SC.val), i.agg, (i.flds ++ i.arr).isEmpty, fillS T s.opd (i.flds ++ i.arr) ps (i.zero.map SC.val) with
    | true, true, true, false, some cs => some ⟨.t, .e (.agg cs), [], []⟩
    | _, _, _, _, _ => none
  | none => none
def sBuildSlice (T : TT) (s : SS) (x : Nat) (t : TypeId) (n : Nat) (ps : List (Nat × Operand)) : Option Out :=
  match T t, lk s.h x with
  | some i, none => match i.el with
    | some et => match T et with
      | some j => match Nat.ble (n * j.size) 16777216, Nat.beq j.size 0, Nat.beq j.zero.length j.size, allOne ((List.range (n * j.size)).map (fun k => SC.val (j.zero.getD (k % j.size) undef))), fillS T s.opd ((List.range n).map fun k => (k * j.size, et)) ps ((List.range (n * j.size)).map (fun k => SC.val (j.zero.getD (k % j.size) undef))) with
        | true, false, true, true, some cs => match allVal cs with
          | some vs => some ⟨.t, .e (.c (.sli x n)), [(x, .row et j.size n vs)], []⟩
          | none => some ⟨.t, .e (.c (.sli x n)), [(x, .blk et cs)], []⟩
        | _, _, _, _, _ => none
      | none => none
    | none => none
  | _, _ => none
def sLen (T : TT) (s : SS) (t : TypeId) (x : Operand) : Option Out :=
  match s.opd x, T t with
  | some (.e (.c (.val (.slice _ n _)))), some i => match i.el with
    | some _ => some ⟨.t, sval (.int .i64 n), [], []⟩
    | none => none
  | some (.e (.c (.sli _ n))), some i => match i.el with
    | some _ => some ⟨.t, sval (.int .i64 n), [], []⟩
    | none => none
  | _, _ => none
def sAppend (T : TT) (F : Hp) (s : SS) (x : Nat) (t : TypeId) (a b : Operand) : Option Out :=
  match s.opd a, s.opd b, T t with
  | some (.e (.c (.sli y n))), some (.e (.c (.sli z m))), some i => match i.el with
    | some et => match T et with
      | some j => match lk s.h y, lk s.h z, lk s.h x with
        | some (.row et1 s1 n1 xs), some (.row et2 s2 m1 ys), none => match Nat.beq y z, Nat.beq j.zero.length j.size, Nat.ble 1 j.size, Nat.ble 1 j.byt with
          | false, true, true, true => if et1 = et ∧ s1 = j.size ∧ et2 = et ∧ s2 = j.size then some ⟨.p (n1 = n ∧ m1 = m ∧ cRoom (n + m) j.byt), .e (.c (.sli x (n + m))), [(x, .row et j.size (n + m) (xs ++ ys)), (y, .gone)], [z]⟩ else none
          | _, _, _, _ => none
        | _, _, _ => none
      | none => none
    | none => none
  | some (.e (.c (.sli y n))), some (.e (.c (.val (.slice A m _)))), some i => match i.el with
    | some et => match T et with
      | some j => match lk s.h y, lk s.h x with
        | some (.row et1 s1 n1 xs), none => match Nat.beq j.zero.length j.size, Nat.ble 1 j.size, Nat.ble 1 j.byt, ibB j.zero with
          | true, true, true, true => if et1 = et ∧ s1 = j.size then some ⟨.p (n1 = n ∧ cExt F A m j.size j.zero ∧ (A.isSome = true ∨ m = 0) ∧ cRoom (n + m) j.byt), .e (.c (.sli x (n + m))), [(x, .row et j.size (n + m) (xs ++ extV F A m j.size j.zero)), (y, .gone)], []⟩ else none
          | _, _, _, _ => none
        | _, _ => none
      | none => none
    | none => none
  | _, _, _ => none
def sMakeMap (T : TT) (s : SS) (x : Nat) (t : TypeId) : Option Out :=
  match T t, lk s.h x with
  | some i, none => match i.mpk with
    | some k => some ⟨.t, .e (.c (.mp x)), [(x, .mpb k [])], []⟩
    | none => none
  | _, _ => none
def sLookup (T : TT) (s : SS) (t : TypeId) (a b : Operand) : Option Out :=
  match s.opd a, s.opd b, T t with
  | some (.e (.c (.mp y))), some (.e (.c (.val (.int k n)))), some i => match lk s.h y, i.mpk with
    | some (.mpb k' m), some k'' => if k = k' ∧ k'' = k' then some ⟨.t, sval (.bool (mlk m n)), [], [y]⟩ else none
    | _, _ => none
  | _, _, _ => none
def sMapUp (T : TT) (s : SS) (t : TypeId) (a b c : Operand) : Option Out :=
  match s.opd a, s.opd b, s.opd c, T t with
  | some (.e (.c (.mp y))), some (.e (.c (.val (.int k n)))), some (.e (.c (.val (.bool b)))), some i => match lk s.h y, i.mpk with
    | some (.mpb k' m), some k'' => if k = k' ∧ k'' = k' then some ⟨.t, sval undef, [(y, .mpb k' (mput m n b))], []⟩ else none
    | _, _ => none
  | _, _, _, _ => none
def ptrs (s : SS) : List Operand → Option (List (Nat × Nat))
  | [] => some []
  | x :: r => match s.opd x, ptrs s r with
    | some (.e (.c (.ptr y o))), some l => some ((y, o) :: l)
    | _, _ => none
def valsO (s : SS) : List Operand → Option (List Value)
  | [] => some []
  | x :: r => match s.opd x, valsO s r with
    | some (.e (.c (.val v))), some l => some (v :: l)
    | some (.e (.agg cs)), some l => match allVal cs with
      | some vs => some (.agg vs.toArray :: l)
      | none => none
    | _, _ => none
def sFunc (s : SS) (f : Fn) (first caps : List Operand) : Option Out :=
  match f, valsO s first, ptrs s caps with
  | .func g, some vs, some ps => some ⟨.t, .e (.c (.fn g vs ps)), [], []⟩
  | _, _, _ => none
def sMake (T : TT) (s : SS) (x : Nat) (t : TypeId) (a b : Operand) : Option Out :=
  match s.opd a, s.opd b, T t, lk s.h x with
  | some (.e (.c (.val (.int _ m)))), some (.e (.c (.val (.int _ m')))), some i, none => match i.el with
    | some et => match T et with
      | some j => match Nat.beq j.size 1, j.zero with
        | true, [z] => match z.oneCell' with
          | true => some ⟨.p (m = m' ∧ 0 ≤ m ∧ (j.byt : Int) * m ≤ 281474976710656 ∧ m ≤ 1048576), .e (.c (.sli x m.toNat)), [(x, .row et j.size m.toNat (List.replicate m.toNat z))], []⟩
          | false => none
        | _, _ => none
      | none => none
    | none => none
  | _, _, _, _ => none
def sCallF (sp : Specs) (F : Hp) (s : SS) (x : Nat) (f : FuncId) (first : List Value) (caps : List (Nat × Nat)) (args : List Operand) : Option Alt :=
  match sp f, opds s args with
  | some g, some vs => g F (lk s.h) x (first.map vSV ++ vs ++ caps.map fun p => .e (.c (.ptr p.1 p.2)))
  | _, _ => none
def sCall (sp : Specs) (F : Hp) (s : SS) (x : Nat) (f : FuncId) (args : List Operand) : Option Alt :=
  match sp f, opds s args with
  | some g, some vs => g F (lk s.h) x vs
  | _, _ => none

def sCallB (T : TT) (F : Hp) (s : SS) (x : Nat) (c : Call) : Option Out :=
  match c.callee with
  | .builtin .append => match c.args.toList, c.argTypes.toList with
    | [y, z], [t, t'] => if t = t' then sAppend T F s x t y z else none
    | _, _ => none
  | .builtin .min => match c.args.toList with
    | [y, z] => sMinMax s .min y z
    | _ => none
  | .builtin .max => match c.args.toList with
    | [y, z] => sMinMax s .max y z
    | _ => none
  | .builtin .len => match c.args.toList, c.argTypes.toList with
    | [y], t :: _ => sLen T s t y
    | _, _ => none
  | _ => none

def sop1 (T : TT) (F : Hp) (s : SS) (x : Nat) : Op → Option Out
  | .move y | .assign y => match s.opd y with
    | some v => some ⟨.t, v, [], []⟩
    | none => none
  | .pick c y z => sPick s c y z
  | .alloc t => sAlloc T s x t
  | .box t v => sBox T s x t v
  | .load t a => sLoad T F s t a
  | .store t a v => sStore T s t a v
  | .binOp op t y z _ => sBin T s op t y z
  | .unOp .not _ y => sNot s y
  | .unOp .neg _ y => sNeg s y
  | .unOp .xor _ y => sXor s y
  | .convert st t y => sConv T s st t y
  | .nilCheck y => sNil s y
  | .fieldAddr st y f => sFieldAddr T s st y f
  | .field st y f => sField T s st y f
  | .indexAddr t y z => sIdxAddr T s t y z
  | .index t y z => sIndex T s t y z
  | .build t ps => sBuild T s t ps.toList
  | .buildSlice t n ps => sBuildSlice T s x t n ps.toList
  | .extract y n => sExtract s y n
  | .makeFunc f first caps => sFunc s f first.toList caps.toList
  | .makeSlice t a b => sMake T s x t a b
  | .call c => sCallB T F s x c
  | .makeMap t none => sMakeMap T s x t
  | .lookup t y z false => sLookup T s t y z
  | .mapUpdate t y z u => sMapUp T s t y z u
  | _ => none

def sop (T : TT) (sp : Specs) (F : Hp) (s : SS) (x : Nat) (op : Op) : Option Alt :=
  match op with
  | .call c => match c.callee with
    | .value (.func f) => sCall sp F s x f c.args.toList
    | .value (.tmp t) => match s.opd (.tmp t) with
      | some (.e (.c (.fn f first caps))) => sCallF sp F s x f first caps c.args.toList
      | some (.e (.c (.val (.func (.func f) first caps)))) => match caps.toList with
        | [] => sCallF sp F s x f first.toList [] c.args.toList
        | _ => none
      | _ => none
    | _ => match sCallB T F s x c with
      | some r => some (.one r)
      | none => none
  | op => match sop1 T F s x op with
    | some r => some (.one r)
    | none => none

def isStore : Op → Bool
  | .store .. => true
  | .mapUpdate .. => true
  | _ => false

theorem infoT_ok {P : Program} {T : TT} (hT : TOK P T) {pl : List (Nat × TypeId)} (h : infoT T pl = true) : infoAll P pl = true := by
  refine List.all_eq_true.2 (fun p hp => ?_)
  obtain ⟨i, hi⟩ := Option.isSome_iff_exists.1 (List.all_eq_true.1 h p hp)
  obtain ⟨d, inf, z, g1, g2, _⟩ := ti_spec (hT _ _ hi)
  simp [g2]

theorem fillS_get {T : TT} {g g' : Operand → Option SV} (h : ∀ x v, g x = some v → g' x = some v) {pl : List (Nat × TypeId)} : ∀ (ps : List (Nat × Operand)) (cs cs' : List SC), fillS T g pl ps cs = some cs' → fillS T g' pl ps cs = some cs'
  | [], cs, cs', hf => hf
  | (f, x) :: r, cs, cs', hf => by
    simp only [fillS] at hf ⊢
    split at hf
    · rename_i u fo ft h1 h2
      rw [h x _ h1, h2]
      simp only
      split at hf
      · rename_i j hj
        split at hf
        · rename_i b1 b2 b3
          first
            | exact fillS_get h r _ _ hf
            | (rw [b1, b2, b3]; exact fillS_get h r _ _ hf)
        · cases hf
      · cases hf
    · cases hf

theorem valsO_den {s : SS} (hk : KN s) {T : FS SV Atom} {a : Act} {ρ : Env} (h : Slots T a ρ) : ∀ (l : List Operand) (vs : List Value), valsO s l = some vs → (∀ x ∈ l, ∀ t, x = .tmp t → T.get t = s.fn.get t) → l.map a.eval = vs
  | [], vs, hv, _ => by cases hv; rfl
  | x :: r, vs, hv, hag => by
    simp only [valsO] at hv
    split at hv
    · rename_i v l h1 h2
      cases hv
      obtain ⟨p1, p2⟩ := opd_den h (opd_kn hk h1) (hag x (by simp))
      have q1 := valsO_den hk h r l h2 (fun y hy => hag y (by simp [hy]))
      have p1' : a.eval x = v := p1
      simp [p1', q1]
    · rename_i cs l h1 h2
      split at hv
      · rename_i ws hws
        cases hv
        obtain ⟨p1, p2⟩ := opd_den h (opd_kn hk h1) (hag x (by simp))
        have q1 := valsO_den hk h r l h2 (fun y hy => hag y (by simp [hy]))
        have p1' : a.eval x = .agg (cs.map (SC.den ρ)).toArray := p1
        have e : cs.map (SC.den ρ) = ws := by
          rw [allVal_ok hws, List.map_map]
          have : (SC.den ρ ∘ SC.val) = id := by funext v; rfl
          rw [this]; simp
        simp [p1', q1, e]
      · cases hv
    · cases hv
theorem ptrs_den {s : SS} (hk : KN s) {T : FS SV Atom} {a : Act} {ρ : Env} (h : Slots T a ρ) : ∀ (l : List Operand) (ps : List (Nat × Nat)), ptrs s l = some ps → (∀ x ∈ l, ∀ t, x = .tmp t → T.get t = s.fn.get t) →
    l.map a.eval = (ps.map fun p => adr ρ p.1 p.2) ∧ ∀ p ∈ ps, (ρ p.1).isSome = true
  | [], vs, hv, _ => by cases hv; simp
  | x :: r, vs, hv, hag => by
    simp only [ptrs] at hv
    split at hv
    · rename_i y o l h1 h2
      cases hv
      obtain ⟨p1, p2⟩ := opd_den h (opd_kn hk h1) (hag x (by simp))
      obtain ⟨q1, q2⟩ := ptrs_den hk h r l h2 (fun y hy => hag y (by simp [hy]))
      have p1' : a.eval x = adr ρ y o := p1
      have p2' : (ρ y).isSome = true := p2 (.ptr y o) (by simp [SE.cells])
      refine ⟨by simp [p1', q1], fun p hp => ?_⟩
      rcases List.mem_cons.1 hp with rfl | hp
      · exact p2'
      · exact q2 p hp
    · cases hv
theorem op_func {C : Cx} {Q : Exit → Act → World → Prop} {s : SS} (hk : KN s) {o : Oper} {e : Ev SV Atom} (hb : ∀ d, e.dst = some d → d < C.n) {g : FuncId} {first caps : Array Operand} {vs : List Value} {ps : List (Nat × Nat)}
    (ho : o.op = .makeFunc (.func g) first caps) (hd : o.dst = e.dst) (hw : e.wa = []) (hr : ∀ t ∈ tmpsOf (first ++ caps).toList, t ∈ e.rs) (h1 : valsO s first.toList = some vs) (h2 : ptrs s caps.toList = some ps) (he : e.v = .e (.c (.fn g vs ps))) : OpOK C Q s.fn o e := by
  refine opOK_pure hd hb hw (fun T a w ρ h k1 k2 k3 => ?_)
  have q1 := valsO_den hk k1 _ _ h1 (fun x hx => agree_opd k3 hr (by simp [Array.mem_toList_iff.1 hx]))
  obtain ⟨q2, q3⟩ := ptrs_den hk k1 _ _ h2 (fun x hx => agree_opd k3 hr (by simp [Array.mem_toList_iff.1 hx]))
  rw [he]
  refine ⟨?_, fun c hc => by simp [SE.cells] at hc; subst hc; exact q3⟩
  have e1 : first.map a.eval = vs.toArray := by apply Array.toList_inj.1; simp [q1]
  have e2 : caps.map a.eval = (ps.map fun p => adr ρ p.1 p.2).toArray := by apply Array.toList_inj.1; simp [q2]
  simp [execOp, ho, Instr.makeFunc, e1, e2, SV.den, SE.den, SC.den]

theorem callB_ok {C : Cx} {Q : Exit → Act → World → Prop} {T : TT} (hT : TOK C.P T) {s : SS} (hk : KN s) {x : Nat} {dst : Option Tmp} {c : Call} {type : TypeId} {pos : String} {after : Array Edge} {guard : Option (Nat × Bool)} {r : Out} {rs : List Nat} (hb : ∀ d, dst = some d → d < C.n)
    (hr : ∀ t ∈ tmpsOf (Op.call c).operands.toList, t ∈ rs) (h : sCallB T C.F s x c = some r) (hc : r.cond.holds) : OpOK C Q s.fn ⟨dst, .call c, type, pos, after, guard⟩ (r.ev dst rs) := by
  obtain ⟨callee, args, ats⟩ := c
  have hopd : ∀ y v, s.opd y = some v → Sy.opd s.fn.get y = some v := fun y v h => opd_kn hk h
  unfold sCallB at h
  simp only at h
  split at h
  · split at h
    · rename_i y z t t' ha hl
      split at h
      · rename_i htt
        subst htt
        have ha' : args = #[y, z] := by apply Array.toList_inj.1; simpa using ha
        subst ha'
        have hats : ats = #[t, t] := by apply Array.toList_inj.1; simpa using hl
        unfold sAppend at h
        split at h
        · rename_i y' n z' m i h1 h2 h3
          split at h
          · rename_i et h4
            split at h
            · rename_i j h5
              split at h
              · rename_i et1 s1 n1 xs et2 s2 m1 ys g1 g2 g3
                split at h
                · rename_i b1 b2 b3 b4
                  split at h
                  · rename_i hq
                    obtain ⟨rfl, rfl, rfl, rfl⟩ := hq
                    cases h
                    obtain ⟨rfl, rfl, hc⟩ := hc
                    exact op_append hb hats (hT _ _ h3) h4 (hT _ _ h5) rfl rfl (fun t ht => hr t (by simpa [Op.operands, Call.operands] using ht)) (hopd _ _ h1) (hopd _ _ h2) g1 g2 (by simp [Out.ev]) (Nat.ne_of_beq_eq_false b1) g3 (Nat.eq_of_beq_eq_true b2) (Nat.le_of_ble_eq_true b3) (Nat.le_of_ble_eq_true b4) hc rfl rfl
                  · cases h
                · cases h
              · cases h
            · cases h
          · cases h
        · rename_i y' n A m cc i h1 h2 h3
          split at h
          · rename_i et h4
            split at h
            · rename_i j h5
              split at h
              · rename_i et1 s1 n1 xs g1 g3
                split at h
                · rename_i b1 b2 b3 b4
                  split at h
                  · rename_i hq
                    obtain ⟨rfl, rfl⟩ := hq
                    cases h
                    obtain ⟨rfl, hc1, hc2, hc3⟩ := hc
                    exact op_append_ext hb hats (hT _ _ h3) h4 (hT _ _ h5) rfl rfl (fun t ht => hr t (by simpa [Op.operands, Call.operands] using ht)) (hopd _ _ h1) (hopd _ _ h2) g1 g3 (Nat.eq_of_beq_eq_true b1) (Nat.le_of_ble_eq_true b2) (Nat.le_of_ble_eq_true b3) b4 hc1 hc2 hc3 rfl rfl
                  · cases h
                · cases h
              · cases h
            · cases h
          · cases h
        · cases h
      · cases h
    · cases h
  · split at h
    · rename_i y z ha
      have ha' : args = #[y, z] := by apply Array.toList_inj.1; simpa using ha
      subst ha'
      unfold sMinMax at h
      split at h
      · rename_i k a k' b' h1 h2
        cases h
        exact op_minmax hb rfl rfl rfl (fun t ht => hr t (by simpa [Op.operands, Call.operands] using ht)) (hopd _ _ h1) (hopd _ _ h2) (.inl ⟨rfl, rfl⟩)
      · cases h
    · cases h
  · split at h
    · rename_i y z ha
      have ha' : args = #[y, z] := by apply Array.toList_inj.1; simpa using ha
      subst ha'
      unfold sMinMax at h
      split at h
      · rename_i k a k' b' h1 h2
        cases h
        exact op_minmax hb rfl rfl rfl (fun t ht => hr t (by simpa [Op.operands, Call.operands] using ht)) (hopd _ _ h1) (hopd _ _ h2) (.inr ⟨rfl, rfl⟩)
      · cases h
    · cases h
  · split at h
    · rename_i y t l ha hl
      have ha' : args = #[y] := by apply Array.toList_inj.1; simpa using ha
      subst ha'
      have hats : ats[0]? = some t := by
        have : ats.toList[0]? = some t := by rw [hl]; rfl
        simpa using this
      unfold sLen at h
      split at h
      · rename_i A n c' i h1 h2
        split at h
        · rename_i et h3
          cases h
          exact op_len hb hats (hT _ _ h2) h3 rfl rfl rfl (fun t ht => hr t (by simpa [Op.operands, Call.operands] using ht)) (hopd _ _ h1) (.inl ⟨A, c', rfl⟩) rfl
        · cases h
      · rename_i y' n i h1 h2
        split at h
        · rename_i et h3
          cases h
          exact op_len hb hats (hT _ _ h2) h3 rfl rfl rfl (fun t ht => hr t (by simpa [Op.operands, Call.operands] using ht)) (hopd _ _ h1) (.inr ⟨y', rfl⟩) rfl
        · cases h
      · cases h
    · cases h
  · cases h

theorem sop1_ok {C : Cx} {Q : Exit → Act → World → Prop} {T : TT} (hT : TOK C.P T) {s : SS} (hk : KN s) {o : Oper} {x : Nat} {r : Out} {rs : List Nat} (hb : ∀ d, o.dst = some d → d < C.n)
    (hst : isStore o.op = true → o.dst = none) (hr : ∀ t ∈ tmpsOf o.op.operands.toList, t ∈ rs) (h : sop1 T C.F s x o.op = some r) (hc : r.cond.holds) : OpOK C Q s.fn o (r.ev o.dst rs) := by
  obtain ⟨dst, op, type, pos, after, guard⟩ := o
  simp only at hb hst hr h ⊢
  have hopd : ∀ y v, s.opd y = some v → Sy.opd s.fn.get y = some v := fun y v h => opd_kn hk h
  cases op <;> simp only [sop1, reduceCtorEq] at h
  case move y =>
    split at h
    · rename_i v hv
      cases h
      exact op_move hb (.inl rfl) rfl rfl (fun t ht => hr t (by simpa [Op.operands] using ht)) (hopd _ _ hv)
    · cases h
  case assign y =>
    split at h
    · rename_i v hv
      cases h
      exact op_move hb (.inr rfl) rfl rfl (fun t ht => hr t (by simpa [Op.operands] using ht)) (hopd _ _ hv)
    · cases h
  case pick c y z =>
    unfold sPick at h
    have hkc : ∀ b, s.kno c = some b → Sy.opd s.fn.get c = some (sval (.bool b)) := fun b hb => opd_kn hk (by unfold SS.opd; rw [hb])
    split at h
    · rename_i hb'
      obtain ⟨v, hv, he⟩ := Option.map_eq_some_iff.1 h
      subst he
      exact op_pick (b := true) hb rfl rfl rfl (fun t ht => hr t (by simpa [Op.operands] using ht)) (hkc _ hb') (hopd _ _ hv)
    · rename_i hb'
      obtain ⟨v, hv, he⟩ := Option.map_eq_some_iff.1 h
      subst he
      exact op_pick (b := false) hb rfl rfl rfl (fun t ht => hr t (by simpa [Op.operands] using ht)) (hkc _ hb') (hopd _ _ hv)
    · cases h
  case alloc t =>
    unfold sAlloc at h
    split at h
    · rename_i i h1 h2
      split at h
      · rename_i hbig
        split at h
        · rename_i hsz
          cases h
          exact op_alloc_big hb (hT _ _ h1) hbig rfl rfl h2 (Nat.le_of_ble_eq_true hsz) rfl rfl
        · cases h
      · split at h
        · rename_i h3
          cases h
          exact op_alloc hb rfl (hT _ _ h1) rfl rfl h2 h3 rfl rfl
        · cases h
    · cases h
  case box t v =>
    unfold sBox at h
    split at h
    · rename_i xs h1 h2
      split at h
      · rename_i i h3
        split at h
        · rename_i hsz
          cases h
          exact op_box_arr hb rfl rfl (fun t ht => hr t (by simpa [Op.operands] using ht)) (hopd _ _ h1) h2 hc (Nat.le_of_ble_eq_true hsz) rfl rfl
        · cases h
      · cases h
    · rename_i u _ h1 h2
      split at h
      · rename_i h3
        cases h
        exact op_box hb rfl rfl (fun t ht => hr t (by simpa [Op.operands] using ht)) (hopd _ _ h1) h2 h3 rfl rfl
      · cases h
    · cases h
  case load t a =>
    unfold sLoad at h
    split at h
    · rename_i x' off h1
      split at h
      · rename_i te cs i h2 h3
        split at h
        · rename_i h4
          split at h
          · rename_i h5
            cases h
            exact op_load hb rfl (hT _ _ h3) rfl rfl rfl (fun t ht => hr t (by simpa [Op.operands] using ht)) (by simp [Out.ev]) (hopd _ _ h1) h2 (.inl ⟨h4, h5, rfl⟩)
          · cases h
        · rename_i h4
          split at h
          · rename_i c h5
            cases h
            exact op_load hb rfl (hT _ _ h3) rfl rfl rfl (fun t ht => hr t (by simpa [Op.operands] using ht)) (by simp [Out.ev]) (hopd _ _ h1) h2 (.inr ⟨by simpa using h4, c, h5, rfl⟩)
          · cases h
      · rename_i te' sz' n' xs i h2 h3
        split at h
        · split at h
          · rename_i hq
            obtain ⟨rfl, rfl, hq2, hq3⟩ := hq
            cases h
            exact op_load_whole hb (hT _ _ h3) hq3 rfl rfl rfl (fun t ht => hr t (by simpa [Op.operands] using ht)) (by simp [Out.ev]) (hopd _ _ h1) h2 hq2 rfl
          · cases h
        split at h
        · rename_i hz
          have hz := Nat.eq_of_beq_eq_true hz
          split at h
          · rename_i h4
            cases h
            exact op_load_row hb (hT _ _ h3) rfl rfl rfl (fun t ht => hr t (by simpa [Op.operands] using ht)) (by simp [Out.ev]) (hopd _ _ h1) h2 hz hc (.inl ⟨h4, rfl⟩)
          · rename_i h4
            split at h
            · rename_i u h5
              cases h
              exact op_load_row hb (hT _ _ h3) rfl rfl rfl (fun t ht => hr t (by simpa [Op.operands] using ht)) (by simp [Out.ev]) (hopd _ _ h1) h2 hz hc (.inr ⟨h4, u, h5, rfl⟩)
            · cases h
        · cases h
      · cases h
    · rename_i A h1
      split at h
      · rename_i i h2
        split at h
        · rename_i hz
          have hz := Nat.eq_of_beq_eq_true hz
          split at h
          · rename_i h4
            cases h
            exact op_load_ext hb (hT _ _ h2) rfl rfl rfl (fun t ht => hr t (by simpa [Op.operands] using ht)) (hopd _ _ h1) hz hc (.inl ⟨h4, rfl⟩)
          · rename_i h4
            split at h
            · rename_i u h5
              cases h
              exact op_load_ext hb (hT _ _ h2) rfl rfl rfl (fun t ht => hr t (by simpa [Op.operands] using ht)) (hopd _ _ h1) hz hc (.inr ⟨h4, u, h5, rfl⟩)
            · cases h
        · cases h
      · cases h
    · cases h
  case store t a v =>
    unfold sStore at h
    have hd := hst rfl
    subst hd
    split at h
    · rename_i x' off vs h1 h2
      split at h
      · rename_i te sz n xs i h3 h4
        split at h
        · rename_i hq
          obtain ⟨rfl, rfl, hq2⟩ := hq
          cases h
          exact op_store_whole (hT _ _ h4) rfl rfl rfl (fun t ht => hr t (by simpa [Op.operands] using ht)) (hopd _ _ h1) (hopd _ _ h2) h3 hq2 hc rfl
        · cases h
      · cases h
    · rename_i x' off u _ h1 h2
      split at h
      · rename_i te cs i h3 h4
        split at h
        · rename_i h5
          split at h
          · rename_i h6
            split at h
            · rename_i h7
              cases h
              exact op_store rfl (hT _ _ h4) rfl rfl rfl (fun t ht => hr t (by simpa [Op.operands] using ht)) (hopd _ _ h1) (hopd _ _ h2) h3 h5 h6 h7 rfl
            · cases h
          · cases h
        · cases h
      · rename_i te sz n xs i h3 h4
        split at h
        · rename_i vs b1 b2 b3
          cases h
          exact op_store_row (hT _ _ h4) rfl rfl rfl (fun t ht => hr t (by simpa [Op.operands] using ht)) (hopd _ _ h1) (hopd _ _ h2) h3 b1 (Nat.eq_of_beq_eq_true b2) hc b3 rfl
        · cases h
      · cases h
    · cases h
  case binOp op xt y z yt =>
    unfold sBin at h
    have hr' : ∀ t ∈ tmpsOf [y, z], t ∈ rs := fun t ht => hr t (by simpa [Op.operands] using ht)
    split at h
    · rename_i k a k' b h1 h2
      split at h
      · rename_i c v h3
        cases h
        exact op_bin hb rfl rfl rfl hr' (hopd _ _ h1) (hopd _ _ h2) h3 hc rfl
      · cases h
    · rename_i p q h1 h2
      split at h
      · rename_i i h3
        split at h
        · rename_i h4
          cases h
          exact op_eq_bool hb (.inl rfl) (hT _ _ h3) h4 rfl rfl rfl hr' (hopd _ _ h1) (hopd _ _ h2) rfl
        · rename_i h4
          cases h
          exact op_eq_bool hb (.inr rfl) (hT _ _ h3) h4 rfl rfl rfl hr' (hopd _ _ h1) (hopd _ _ h2) rfl
        · cases h
      · cases h
    · rename_i xs ys h1 h2
      split at h
      · rename_i i q h3 h4
        split at h
        · rename_i b1 b2 b3
          cases h
          exact op_eq_agg hb (.inl rfl) (hT _ _ h3) b1 rfl rfl rfl hr' (hopd _ _ h1) (hopd _ _ h2) h4 (Nat.eq_of_beq_eq_true b2) (Nat.eq_of_beq_eq_true b3) rfl
        · rename_i b1 b2 b3
          cases h
          exact op_eq_agg hb (.inr rfl) (hT _ _ h3) b1 rfl rfl rfl hr' (hopd _ _ h1) (hopd _ _ h2) h4 (Nat.eq_of_beq_eq_true b2) (Nat.eq_of_beq_eq_true b3) rfl
        · cases h
      · cases h
    · cases h
  case unOp op xt y =>
    have hr' : ∀ t ∈ tmpsOf [y], t ∈ rs := fun t ht => hr t (by simpa [Op.operands] using ht)
    cases op <;> simp only [sop1, reduceCtorEq] at h
    case not =>
      unfold sNot at h
      split at h
      · rename_i b h1
        cases h
        exact op_not hb rfl rfl rfl hr' (hopd _ _ h1) rfl
      · cases h
    case neg =>
      unfold sNeg at h
      split at h
      · rename_i k n h1
        cases h
        exact op_neg hb rfl rfl rfl hr' (hopd _ _ h1) rfl
      · cases h
    case xor =>
      unfold sXor at h
      split at h
      · rename_i k n h1
        cases h
        exact op_xor hb rfl rfl rfl hr' (hopd _ _ h1) rfl
      · cases h
  case convert st t y =>
    unfold sConv at h
    split at h
    · rename_i k0 n j i h1 h2 h3
      split at h
      · rename_i k' k h4 h5
        cases h
        exact op_conv hb (hT _ _ h2) h4 (hT _ _ h3) h5 rfl rfl rfl (fun t ht => hr t (by simpa [Op.operands] using ht)) (hopd _ _ h1) rfl
      · cases h
    · cases h
  case nilCheck y =>
    unfold sNil at h
    split at h
    · rename_i y' off h1
      cases h
      exact op_nil hb (.inl ⟨y', off, rfl⟩) rfl rfl rfl (fun t ht => hr t (by simpa [Op.operands] using ht)) (hopd _ _ h1) rfl
    · rename_i A h1
      cases h
      exact op_nil hb (.inr ⟨A, rfl⟩) rfl rfl rfl (fun t ht => hr t (by simpa [Op.operands] using ht)) (hopd _ _ h1) rfl
    · cases h
  case fieldAddr st y f =>
    unfold sFieldAddr at h
    split at h
    · rename_i y' off i h1 h2
      split at h
      · rename_i fo ft h3
        split at h
        · rename_i j h4
          split at h
          · cases h
          · rename_i h5
            cases h
            exact op_field_addr hb rfl (hT _ _ h2) h3 (hT _ _ h4) h5 rfl rfl rfl (fun t ht => hr t (by simpa [Op.operands] using ht)) (hopd _ _ h1) rfl
        · cases h
      · cases h
    · rename_i A i h1 h2
      split at h
      · rename_i fo ft h3
        split at h
        · rename_i j h4
          split at h
          · cases h
          · rename_i h5
            cases h
            exact op_field_addr_ext hb (hT _ _ h2) h3 (hT _ _ h4) h5 rfl rfl rfl (fun t ht => hr t (by simpa [Op.operands] using ht)) (hopd _ _ h1) rfl
        · cases h
      · cases h
    · cases h
  case field st y f =>
    unfold sField at h
    split at h
    · rename_i cs i h1 h2
      split at h
      · rename_i fo ft h3
        split at h
        · rename_i j h4
          split at h
          · rename_i h5
            cases h
            exact op_field hb rfl (hT _ _ h2) h3 (hT _ _ h4) rfl rfl rfl (fun t ht => hr t (by simpa [Op.operands] using ht)) (hopd _ _ h1) (.inl ⟨h5, rfl⟩)
          · rename_i h5
            split at h
            · rename_i c h6
              cases h
              exact op_field hb rfl (hT _ _ h2) h3 (hT _ _ h4) rfl rfl rfl (fun t ht => hr t (by simpa [Op.operands] using ht)) (hopd _ _ h1) (.inr ⟨by simpa using h5, c, h6, rfl⟩)
            · cases h
        · cases h
      · cases h
    · cases h
  case indexAddr t y z =>
    unfold sIdxAddr at h
    have hr' : ∀ t ∈ tmpsOf [y, z], t ∈ rs := fun t ht => hr t (by simpa [Op.operands] using ht)
    split at h
    · rename_i y' off k mm i h1 h2 h3
      split at h
      · split at h
        · rename_i et n h4
          split at h
          · rename_i j h5
            cases h
            exact op_el_sym hb (hT _ _ h3) h4 (hT _ _ h5) rfl rfl rfl hr' (hopd _ _ h1) (hopd _ _ h2) hc rfl
          · cases h
        · cases h
      · split at h
        · rename_i m
          split at h
          · rename_i eo et h4
            cases h
            exact op_el_arr hb (hT _ _ h3) rfl rfl rfl hr' (hopd _ _ h1) (hopd _ _ h2) h4 rfl
          · cases h
        · cases h
    · rename_i A n c k m i h1 h2 h3
      split at h
      · rename_i et h4
        split at h
        · rename_i j h5
          cases h
          exact op_el_ext hb (hT _ _ h3) h4 (hT _ _ h5) rfl rfl rfl hr' (hopd _ _ h1) (hopd _ _ h2) hc rfl
        · cases h
      · cases h
    · rename_i y' n k m i h1 h2 h3
      split at h
      · rename_i et h4
        split at h
        · rename_i j h5
          cases h
          exact op_el_row hb (hT _ _ h3) h4 (hT _ _ h5) rfl rfl rfl hr' (hopd _ _ h1) (hopd _ _ h2) hc rfl
        · cases h
      · cases h
    · cases h
  case index t y z =>
    unfold sIndex at h
    have hr' : ∀ t ∈ tmpsOf [y, z], t ∈ rs := fun t ht => hr t (by simpa [Op.operands] using ht)
    split at h
    · rename_i cs k m i h1 h2 h3
      split at h
      · rename_i eo et h4
        split at h
        · rename_i j h5
          split at h
          · rename_i h6
            cases h
            exact op_index hb (hT _ _ h3) (hT _ _ h5) rfl rfl rfl hr' (hopd _ _ h1) (hopd _ _ h2) h4 (.inl ⟨h6, rfl⟩)
          · rename_i h6
            split at h
            · rename_i c h7
              cases h
              exact op_index hb (hT _ _ h3) (hT _ _ h5) rfl rfl rfl hr' (hopd _ _ h1) (hopd _ _ h2) h4 (.inr ⟨h6, c, h7, rfl⟩)
            · cases h
        · cases h
      · cases h
    · cases h
  case build t ps =>
    unfold sBuild at h
    split at h
    · rename_i i h1
      split at h
      · rename_i cs b1 b2 b3 b4 hf
        cases h
        exact op_build hb hT (hT _ _ h1) rfl rfl rfl (fun t ht => hr t (by simpa [Op.operands] using ht)) (infoT_ok hT b1) b2 (fillS_get hopd _ _ _ hf) b3 b4 rfl
      · cases h
    · cases h
  case buildSlice t n ps =>
    unfold sBuildSlice at h
    split at h
    · rename_i i h1 h2
      split at h
      · rename_i et h3
        split at h
        · rename_i j h4
          split at h
          · rename_i cs b1 b2 b3 b4 hf
            split at h
            · rename_i vs hvs
              cases h
              exact op_build_row hb hT (hT _ _ h1) h3 (hT _ _ h4) rfl rfl (fun t ht => hr t (by simpa [Op.operands] using ht)) h2 (Nat.le_of_ble_eq_true b1) (Nat.ne_of_beq_eq_false b2) (Nat.eq_of_beq_eq_true b3) rfl b4 (fillS_get hopd _ _ _ hf) hvs rfl rfl
            cases h
            exact op_build_slice hb hT (hT _ _ h1) h3 (hT _ _ h4) rfl rfl (fun t ht => hr t (by simpa [Op.operands] using ht)) h2 (Nat.le_of_ble_eq_true b1) (Nat.ne_of_beq_eq_false b2) (Nat.eq_of_beq_eq_true b3) rfl b4 (fillS_get hopd _ _ _ hf) (fun ρ ρ' g h1 h2 _ h3 h4 => cells_new (fun _ _ => none) h1 h2 _ _ _ g ρ' h3 h4) rfl rfl
          · cases h
        · cases h
      · cases h
    · cases h
  case extract y n =>
    unfold sExtract at h
    split at h
    · rename_i l h1
      split at h
      · rename_i u h2
        cases h
        exact op_extract hb rfl rfl rfl (fun t ht => hr t (by simpa [Op.operands] using ht)) (hopd _ _ h1) h2 rfl
      · cases h
    · cases h
  case call c => exact callB_ok hT hk hb hr h hc
  case makeSlice t a b =>
    unfold sMake at h
    split at h
    · rename_i k m k' m' i h1 h2 h3 h4
      split at h
      · rename_i et h5
        split at h
        · rename_i j h6
          split at h
          · rename_i z b1 b2
            split at h
            · rename_i b3
              cases h
              obtain ⟨rfl, hc⟩ := hc
              exact op_make_row hb (hT _ _ h3) h5 (hT _ _ h6) rfl rfl (fun t ht => hr t (by simpa [Op.operands] using ht)) (hopd _ _ h1) (hopd _ _ h2) h4 (Nat.eq_of_beq_eq_true b1) b2 b3 hc rfl rfl
            · cases h
          · cases h
        · cases h
      · cases h
    · cases h
  case makeMap t u =>
    cases u with
    | some u => simp only [sop1, reduceCtorEq] at h
    | none =>
      simp only [sop1] at h
      unfold sMakeMap at h
      split at h
      · rename_i i h1 h2
        split at h
        · rename_i k h3
          cases h
          exact op_make_map hb rfl rfl h2 rfl rfl
        · cases h
      · cases h
  case lookup t y z u =>
    cases u with
    | true => simp only [sop1, reduceCtorEq] at h
    | false =>
      simp only [sop1] at h
      unfold sLookup at h
      split at h
      · rename_i y' k n i h1 h2 h3
        split at h
        · rename_i k' m k'' h4 h5
          split at h
          · rename_i hq
            obtain ⟨rfl, rfl⟩ := hq
            cases h
            exact op_lookup hb (hT _ _ h3) h5 rfl rfl rfl (fun t ht => hr t (by simpa [Op.operands] using ht)) (by simp [Out.ev]) (hopd _ _ h1) (hopd _ _ h2) h4 rfl
          · cases h
        · cases h
      · cases h
  case mapUpdate t y z u =>
    unfold sMapUp at h
    have hd := hst rfl
    subst hd
    split at h
    · rename_i y' k n b i h1 h2 h3 h4
      split at h
      · rename_i k' m k'' h5 h6
        split at h
        · rename_i hq
          obtain ⟨rfl, rfl⟩ := hq
          cases h
          exact op_map_update (hT _ _ h4) h6 rfl rfl rfl (fun t ht => hr t (by simpa [Op.operands] using ht)) (hopd _ _ h1) (hopd _ _ h2) (hopd _ _ h3) h5 rfl
        · cases h
      · cases h
    · cases h
  case makeFunc f first caps =>
    unfold sFunc at h
    split at h
    · rename_i g vs ps h1 h2
      cases h
      exact op_func hk hb rfl rfl rfl (fun t ht => hr t (by simpa [Op.operands] using ht)) h1 h2 rfl
    · cases h

theorem sop_ok {C : Cx} {Q : Exit → Act → World → Prop} {T : TT} {sp : Specs} (hT : TOK C.P T) (hsp : SpecsOK C.P sp) {s : SS} (hk : KN s) {o : Oper} {x : Nat} {al : Alt} {r : Out} {rs : List Nat} (hb : ∀ d, o.dst = some d → d < C.n)
    (hst : isStore o.op = true → o.dst = none) (hr : ∀ t ∈ tmpsOf o.op.operands.toList, t ∈ rs) (h : sop T sp C.F s x o.op = some al) (hal : al.has r) (hc : r.cond.holds) : OpOK C Q s.fn o (r.ev o.dst rs) := by
  have one : ∀ {q : Option Out}, (match q with | some r => some (Alt.one r) | none => none) = some al → q = some r := by
    intro q hq
    cases q with
    | none => cases hq
    | some r' =>
      cases hq
      simp only [Alt.has] at hal
      rw [hal]
  unfold sop at h
  split at h
  · rename_i c hop
    split at h
    · rename_i f hcal
      unfold sCall at h
      split at h
      · rename_i g vs h1 h2
        obtain ⟨callee, args, ats⟩ := c
        simp only at hcal h2 h
        subst hcal
        exact op_call hk hb rfl (hsp _ _ h1) hop rfl (fun t ht => hr t (by
          obtain ⟨y, hy, hyt⟩ := List.mem_filterMap.1 ht
          refine List.mem_filterMap.2 ⟨y, ?_, hyt⟩
          rw [hop]
          simp only [Op.operands, Call.operands]
          simp [Array.mem_toList_iff.1 hy])) h2 h hal hc rfl rfl rfl
      · cases h
    · rename_i t hcal
      split at h
      · rename_i f first caps hfn
        unfold sCallF at h
        split at h
        · rename_i g vs h1 h2
          obtain ⟨callee, args, ats⟩ := c
          simp only at hcal h2 h
          subst hcal
          exact op_call_fn hk hb rfl (hsp _ _ h1) hop rfl (fun t ht => hr t (by
            obtain ⟨y, hy, hyt⟩ := List.mem_filterMap.1 ht
            refine List.mem_filterMap.2 ⟨y, ?_, hyt⟩
            rw [hop]
            simp only [Op.operands, Call.operands]
            rcases List.mem_cons.1 hy with rfl | hy
            · simp
            · simp [Array.mem_toList_iff.1 hy])) hfn (.inl rfl) h2 h hal hc rfl rfl rfl
        · cases h
      · rename_i f first caps hfn
        split at h
        · rename_i hcaps
          have hcaps' : caps = #[] := by apply Array.toList_inj.1; simpa using hcaps
          subst hcaps'
          unfold sCallF at h
          split at h
          · rename_i g vs h1 h2
            obtain ⟨callee, args, ats⟩ := c
            simp only at hcal h2 h
            subst hcal
            exact op_call_fn hk hb rfl (hsp _ _ h1) hop rfl (fun t ht => hr t (by
              obtain ⟨y, hy, hyt⟩ := List.mem_filterMap.1 ht
              refine List.mem_filterMap.2 ⟨y, ?_, hyt⟩
              rw [hop]
              simp only [Op.operands, Call.operands]
              rcases List.mem_cons.1 hy with rfl | hy
              · simp
              · simp [Array.mem_toList_iff.1 hy])) hfn (.inr ⟨rfl, rfl⟩) h2 h hal hc rfl rfl rfl
          · cases h
        · cases h
      · cases h
    · refine sop1_ok (x := x) hT hk hb hst hr ?_ hc
      rw [hop]
      exact one h
  · exact sop1_ok (x := x) hT hk hb hst hr (one h) hc

end Go.Sy
