/- Code run symbolically: what is left to be shown of a function is a statement on numbers; what follows from it is what its call does. No condition. -/
import Derived.Test.YtemoagpahhdoeaaSyD
namespace Go.Sy
set_option linter.unusedSimpArgs false
set_option linter.unusedVariables false

structure En where
  T : TT
  sp : Specs
  F : Hp
  n : Nat
  rt : List Nat := []

def Split (b : Bool) (k : Bool → Prop) : Prop := (b = true → k true) ∧ (b = false → k false)

def known : SS → Nat → Bool → (SS → Prop) → Prop
  | ⟨ts, h, kn⟩, t, b, k => putK kn t b fun kn' => k ⟨ts, h, kn'⟩
def splitAt (s : SS) (x : Operand) (k : SS → Prop) : Prop :=
  match s.kno x with
  | some _ => k s
  | none => match x with
    | .tmp t => match lk s.t t with
      | some (.e (.c (.val (.bool b)))) => Split b fun b' => known s t b' k
      | _ => k s
    | _ => k s
def splitC (s : SS) (o : Op) (k : SS → Prop) : Prop :=
  match o with
  | .pick c _ _ => splitAt s c k
  | _ => k s
def knRes (s : SS) : Op → Option Bool
  | .move x | .assign x => s.kno x
  | .pick c a b => match s.kno c with
    | some true => s.kno a
    | some false => s.kno b
    | none => none
  | .unOp .not _ x => match s.kno x with
    | some b => some !b
    | none => none
  | _ => none
theorem knRes_ok {T : TT} {sp : Specs} {F : Hp} {s : SS} {x : Nat} {o : Op} {al : Alt} {r : Out} (h : sop T sp F s x o = some al) (hal : al.has r) {b : Bool} (hb : knRes s o = some b) : r.v = sval (.bool b) := by
  cases o <;> simp only [knRes, reduceCtorEq] at hb
  case move y => simp only [sop, sop1, SS.opd, hb, Option.some.injEq] at h; subst h; simp only [Alt.has] at hal; subst hal; rfl
  case assign y => simp only [sop, sop1, SS.opd, hb, Option.some.injEq] at h; subst h; simp only [Alt.has] at hal; subst hal; rfl
  case pick c y z =>
    simp only [sop, sop1, sPick] at h
    split at hb
    · rename_i hc
      simp only [hc, SS.opd, hb, Option.map_some, Option.some.injEq] at h; subst h; simp only [Alt.has] at hal; subst hal; rfl
    · rename_i hc
      simp only [hc, SS.opd, hb, Option.map_some, Option.some.injEq] at h; subst h; simp only [Alt.has] at hal; subst hal; rfl
    · cases hb
  case unOp op xt y =>
    cases op <;> simp only [reduceCtorEq] at hb
    split at hb
    · rename_i b' hy
      cases hb
      simp only [sop, sop1, sNot, SS.opd, hy, sval, Option.some.injEq] at h
      subst h
      simp only [Alt.has] at hal
      subst hal
      rfl
    · cases hb

def dstB (n : Nat) (o : Oper) : Bool := (match o.dst with | some d => decide (d < n) | none => true) && (!isStore o.op || o.dst.isNone)
def skipOut : Out := ⟨.t, sval undef, [], []⟩
def stepOp (E : En) (ops : Array Oper) (o : Oper) (s : SS) (k : Ev SV Atom → SS → Prop) : Prop :=
  match o.dst with
  | none => match sop E.T E.sp E.F s 0 o.op with
    | none => False
    | some al => al.run fun r => r.cond.and (s.appK none none r (k (r.ev none (readsOf ops o))))
  | some d => match sop E.T E.sp E.F s d o.op with
    | none => False
    | some al => al.run fun r => r.cond.and (s.appK (some d) (knRes s o.op) r (k (r.ev (some d) (readsOf ops o))))
theorem stepOp_eq {E : En} {ops : Array Oper} {o : Oper} {s : SS} {k : Ev SV Atom → SS → Prop} (h : stepOp E ops o s k) : ∃ x al r kb, sop E.T E.sp E.F s x o.op = some al ∧ al.has r ∧ r.cond.holds ∧ (∀ b, kb = some b → r.v = sval (.bool b)) ∧ k (r.ev o.dst (readsOf ops o)) (s.app o.dst kb r) := by
  unfold stepOp at h
  split at h
  · rename_i hd
    split at h
    · exact h.elim
    · rename_i al hr
      obtain ⟨r, hal, h⟩ := Alt.run_ok h
      obtain ⟨h1, h2⟩ := Cd.and_ok h
      rw [appK_eq] at h2
      exact ⟨_, al, r, none, hr, hal, h1, (fun b hb => by cases hb), by rw [hd]; exact h2⟩
  · rename_i d hd
    split at h
    · exact h.elim
    · rename_i al hr
      obtain ⟨r, hal, h⟩ := Alt.run_ok h
      obtain ⟨h1, h2⟩ := Cd.and_ok h
      rw [appK_eq] at h2
      exact ⟨_, al, r, _, hr, hal, h1, (fun b hb => knRes_ok hr hal hb), by rw [hd]; exact h2⟩
/-- What an event looks at and writes, written out where the order is drawn. -/
def cons1 (draw : Bool) (x : Fp) (acc : List Fp) : List Fp := match draw with | false => acc | true => x :: acc
def accK (draw : Bool) (e : Ev SV Atom) (acc : List Fp) (k : List Fp → Prop) : Prop :=
  match draw with
  | false => k acc
  | true => frcN e.rs fun rs => frcN e.ra fun ra => frcN (ids e.wa) fun wa => k (⟨e.dst, rs, ra, wa⟩ :: acc)
theorem accK_eq (draw : Bool) (e : Ev SV Atom) (acc : List Fp) (k : List Fp → Prop) : accK draw e acc k = k (cons1 draw e.fp acc) := by
  cases draw
  · rfl
  · simp only [accK, frcN_eq]; rfl
noncomputable def runOps (E : En) (ops : Array Oper) (draw : Bool) (l : List Oper) : SS → List Fp → (List Fp → SS → Prop) → Prop :=
  List.rec (motive := fun _ => SS → List Fp → (List Fp → SS → Prop) → Prop) (fun s acc K => K acc s)
    (fun o _ ih s acc K => match dstB E.n o with
      | false => False
      | true => match o.guard with
        | none => splitC s o.op fun s => stepOp E ops o s fun e s' => accK draw e acc fun acc => ih s' acc K
        | some (j, want) => match (ops[j]?).bind (·.dst) with
          | none => False
          | some d => splitAt s (.tmp d) fun s => match lk s.kn d with
            | none => match lk s.t d with
              | some (.e (.c (.val (.tuple _)))) => s.appK o.dst none skipOut fun s' => accK draw (skipOut.ev o.dst (readsOf ops o)) acc fun acc => ih s' acc K
              | _ => False
            | some b => match b == want with
              | true => splitC s o.op fun s => stepOp E ops o s fun e s' => accK draw e acc fun acc => ih s' acc K
              | false => s.appK o.dst none skipOut fun s' => accK draw (skipOut.ev o.dst (readsOf ops o)) acc fun acc => ih s' acc K) l
theorem runOps_nil (E : En) (ops : Array Oper) (draw : Bool) (s : SS) (acc : List Fp) (K : List Fp → SS → Prop) : runOps E ops draw [] s acc K = K acc s := rfl
theorem runOps_cons (E : En) (ops : Array Oper) (draw : Bool) (o : Oper) (r : List Oper) (s : SS) (acc : List Fp) (K : List Fp → SS → Prop) : runOps E ops draw (o :: r) s acc K = (match dstB E.n o with
      | false => False
      | true => match o.guard with
        | none => splitC s o.op fun s => stepOp E ops o s fun e s' => accK draw e acc fun acc => runOps E ops draw r s' acc K
        | some (j, want) => match (ops[j]?).bind (·.dst) with
          | none => False
          | some d => splitAt s (.tmp d) fun s => match lk s.kn d with
            | none => match lk s.t d with
              | some (.e (.c (.val (.tuple _)))) => s.appK o.dst none skipOut fun s' => accK draw (skipOut.ev o.dst (readsOf ops o)) acc fun acc => runOps E ops draw r s' acc K
              | _ => False
            | some b => match b == want with
              | true => splitC s o.op fun s => stepOp E ops o s fun e s' => accK draw e acc fun acc => runOps E ops draw r s' acc K
              | false => s.appK o.dst none skipOut fun s' => accK draw (skipOut.ev o.dst (readsOf ops o)) acc fun acc => runOps E ops draw r s' acc K) := rfl

theorem split_at {s : SS} (hk : KN s) {x : Operand} {k : SS → Prop} (h : splitAt s x k) : ∃ s', s'.fn = s.fn ∧ KN s' ∧ k s' := by
  unfold splitAt at h
  split at h
  · exact ⟨s, rfl, hk, h⟩
  · split at h
    · rename_i t _
      split at h
      · rename_i b hb
        have : ∃ b', b = b' ∧ k { s with kn := put s.kn t b' } := by
          simp only [known, putK_eq] at h
          cases hb' : b with
          | true => exact ⟨true, rfl, h.1 hb'⟩
          | false => exact ⟨false, rfl, h.2 hb'⟩
        obtain ⟨b', rfl, h'⟩ := this
        refine ⟨{ s with kn := put s.kn t b }, rfl, ?_, h'⟩
        intro t' c hc
        simp only [lk_put] at hc
        split at hc
        · rename_i he
          cases hc
          rw [← he]; exact hb
        · exact hk t' c hc
      · exact ⟨s, rfl, hk, h⟩
    · exact ⟨s, rfl, hk, h⟩

theorem split_c {s : SS} (hk : KN s) {o : Op} {k : SS → Prop} (h : splitC s o k) : ∃ s', s'.fn = s.fn ∧ KN s' ∧ k s' := by
  unfold splitC at h
  split at h
  · exact split_at hk h
  · exact ⟨s, rfl, hk, h⟩

def Chain (C : Cx) (ops : Array Oper) : Nat → FS SV Atom → List (Ev SV Atom) → FS SV Atom → Prop
  | _, S, [], S' => S' = S
  | i, S, e :: es, S' => (∀ Q, EvOK C.P ops Q (Sat C) S i e) ∧ Chain C ops (i + 1) (S.app e) es S'

theorem evOK_plain {C : Cx} {ops : Array Oper} {Q : Exit → Act → World → Prop} {S : FS SV Atom} {i : Nat} {o : Oper} {e : Ev SV Atom} (ho : ops[i]? = some o) (hg : o.guard = none) (h : OpOK C Q S o e) : EvOK C.P ops Q (Sat C) S i e := by
  intro T a w hs hag
  unfold wpOp
  rw [ho]
  simp only [Region.wanted, hg, if_true]
  exact .inl (h T a w _ hs hag (fun _ _ h => h))

theorem yields {C : Cx} {ops : Array Oper} {T : FS SV Atom} {a : Act} {w : World} {j d : Nat} {b : Bool} (hs : Sat C T a w) (hd : (ops[j]?).bind (·.dst) = some d) (hb : T.get d = some (sval (.bool b))) : yielded ops a.tmps j = some b := by
  obtain ⟨_, _, _, ρ, h, _, h5, _⟩ := hs
  obtain ⟨h6, _⟩ := h5 d _ hb
  have h6' : a.tmps.getD d undef = .bool b := h6
  unfold yielded
  rw [hd]
  simp only [Option.bind_some]
  simp only [Array.getD_eq_getD_getElem?] at h6'
  cases hx : a.tmps[d]? with
  | none => rw [hx] at h6'; simp [undef] at h6'
  | some v => rw [hx] at h6'; simp at h6'; subst h6'; rfl

theorem evOK_guard {C : Cx} {ops : Array Oper} {Q : Exit → Act → World → Prop} {S : FS SV Atom} {i j d : Nat} {b : Bool} {o : Oper} {e : Ev SV Atom} (ho : ops[i]? = some o) (hg : o.guard = some (j, b)) (hd : (ops[j]?).bind (·.dst) = some d) (hrs : d ∈ e.rs) (hb : S.get d = some (sval (.bool b)))
    (h : OpOK C Q S o e) : EvOK C.P ops Q (Sat C) S i e := by
  intro T a w hs hag
  unfold wpOp
  rw [ho]
  have hy := yields (w := w) hs hd ((hag.1 d hrs).trans hb)
  simp only [Region.wanted, hg, hy, beq_self_eq_true, if_true]
  exact .inl (h T a w _ hs hag (fun _ _ h => h))

theorem yields_none {C : Cx} {ops : Array Oper} {T : FS SV Atom} {a : Act} {w : World} {j d : Nat} {vs : Array Value} (hs : Sat C T a w) (hd : (ops[j]?).bind (·.dst) = some d) (hb : T.get d = some (sval (.tuple vs))) : yielded ops a.tmps j = none := by
  obtain ⟨_, _, _, ρ, h, _, h5, _⟩ := hs
  obtain ⟨h6, _⟩ := h5 d _ hb
  have h6' : a.tmps.getD d undef = .tuple vs := h6
  unfold yielded
  rw [hd]
  simp only [Option.bind_some]
  simp only [Array.getD_eq_getD_getElem?] at h6'
  cases hx : a.tmps[d]? with
  | none => rfl
  | some v => rw [hx] at h6'; simp at h6'; subst h6'; rfl

theorem evOK_skip {C : Cx} {ops : Array Oper} {Q : Exit → Act → World → Prop} {S : FS SV Atom} {i j d : Nat} {want : Bool} {o : Oper} {e : Ev SV Atom} (ho : ops[i]? = some o) (hg : o.guard = some (j, want)) (hd : (ops[j]?).bind (·.dst) = some d) (hrs : d ∈ e.rs) (hb : (∃ b, S.get d = some (sval (.bool b)) ∧ (b == want) = false) ∨ ∃ vs, S.get d = some (sval (.tuple vs)))
    (hdst : e.dst = o.dst) (hv : e.v = sval undef) (hw : e.wa = []) (hbd : ∀ d, e.dst = some d → d < C.n) : EvOK C.P ops Q (Sat C) S i e := by
  intro T a w hs hag
  unfold wpOp
  rw [ho]
  have hy : ¬ (yielded ops a.tmps j == some want) = true := by
    rcases hb with ⟨b, hb, hne⟩ | ⟨vs, hb⟩
    · rw [yields (w := w) hs hd ((hag.1 d hrs).trans hb)]
      simpa using hne
    · rw [yields_none (w := w) hs hd ((hag.1 d hrs).trans hb)]
      simp
  simp only [Region.wanted, hg]
  rw [if_neg hy]
  obtain ⟨h1, h2, h3, ρ, h, h4, h5, hroots⟩ := hs
  obtain ⟨p1, p2⟩ := size_put a e.dst (e.v.den ρ)
  have hva : T.app e = { T.app e with atm := T.atm } := by
    refine FS.ext' (fun _ => rfl) (fun x => ?_)
    simp [FS.app, updA, hw, lk]
  have := slots_put (C := C) (e := e) h5 (Ext.refl ρ) (by rw [hv]; intro c hc; simp [SE.cells] at hc; subst hc; trivial) (fun d hd => by rw [h1]; exact hbd d hd)
  rw [← hdst]
  have hu : e.v.den ρ = undef := by rw [hv]; rfl
  rw [hu] at this p1 p2
  refine ⟨p1.trans h1, p2.trans h2, h3, ρ, h, ?_, this, hroots⟩
  rw [hva]; exact h4

def accOf (draw : Bool) (es : List (Ev SV Atom)) (acc : List Fp) : List Fp := match draw with | false => acc | true => (es.map Ev.fp).reverse ++ acc

theorem runOps_ok {C : Cx} {E : En} (hF : C.F = E.F) (hn : C.n = E.n) (hT : TOK C.P E.T) (hsp : SpecsOK C.P E.sp) {ops : Array Oper} {draw : Bool} : ∀ (l : List Oper) (i : Nat) (s : SS) (acc : List Fp) (K : List Fp → SS → Prop), (∀ j, l[j]? = ops[i + j]?) → KN s → runOps E ops draw l s acc K →
    ∃ es s', Chain C ops i s.fn es s'.fn ∧ es.length = l.length ∧ KN s' ∧ K (accOf draw es acc) s'
  | [], i, s, acc, K, _, hk, h => ⟨[], s, rfl, rfl, hk, by rw [runOps_nil] at h; cases draw <;> simpa [accOf] using h⟩
  | o :: r, i, s, acc, K, hl, hk, h => by
    have ho : ops[i]? = some o := by simpa using (hl 0).symm
    have hl' : ∀ j, r[j]? = ops[i + 1 + j]? := fun j => by have := hl (j + 1); rw [show i + 1 + j = i + (j + 1) by omega]; simpa using this
    have hacc : ∀ (e : Ev SV Atom) es, accOf draw (e :: es) acc = accOf draw es (cons1 draw e.fp acc) := fun e es => by cases draw <;> simp [accOf, cons1]
    -- one operation, and what follows
    have one : ∀ (s1 : SS), s1.fn = s.fn → KN s1 → (∀ d, o.dst = some d → d < C.n) → (isStore o.op = true → o.dst = none) →
        (∀ (x : Out), (∀ Q, OpOK C Q s1.fn o (x.ev o.dst (readsOf ops o))) → ∀ Q, EvOK C.P ops Q (Sat C) s1.fn i (x.ev o.dst (readsOf ops o))) →
        splitC s1 o.op (fun s => stepOp E ops o s fun e s' => accK draw e acc fun acc => runOps E ops draw r s' acc K) →
        ∃ es s', Chain C ops i s.fn es s'.fn ∧ es.length = r.length + 1 ∧ KN s' ∧ K (accOf draw es acc) s' := by
      intro s1 hf1 hk1 hb hst hev hsp1
      obtain ⟨s2, hf2, hk2, hstep⟩ := split_c hk1 hsp1
      obtain ⟨x, al, rr, kb, hrr, hal, hc, hkb, hrest⟩ := stepOp_eq hstep
      rw [accK_eq] at hrest
      have hop : ∀ Q, OpOK C Q s2.fn o (rr.ev o.dst (readsOf ops o)) := fun Q => by
        have hrr' := hrr
        rw [← hF] at hrr'
        exact sop_ok hT hsp hk2 hb hst (fun t ht => by unfold readsOf; exact List.mem_append.2 (.inl ht)) hrr' hal hc
      have hk3 := app_KN hk2 o.dst kb rr hkb
      obtain ⟨es, s', c1, c2, c3, c5⟩ := runOps_ok hF hn hT hsp r (i + 1) _ _ K hl' hk3 hrest
      rw [hf2] at hop
      refine ⟨rr.ev o.dst (readsOf ops o) :: es, s', ⟨?_, ?_⟩, by simp [c2], c3, by rw [hacc]; exact c5⟩
      · rw [← hf1]; exact hev rr hop
      · rw [app_fn (rs := readsOf ops o), hf2, hf1] at c1
        exact c1
    rw [runOps_cons] at h
    split at h
    · exact h.elim
    · rename_i hdb
      unfold dstB at hdb
      simp only [Bool.and_eq_true, Bool.or_eq_true, Bool.not_eq_true'] at hdb
      have hb : ∀ d, o.dst = some d → d < C.n := fun d hd => by rw [hd] at hdb; simpa [hn] using hdb.1
      have hst : isStore o.op = true → o.dst = none := fun hs => by
        rcases hdb.2 with h2 | h2
        · rw [hs] at h2; cases h2
        · simpa using h2
      split at h
      · rename_i hg
        obtain ⟨es, s', q⟩ := one s rfl hk hb hst (fun x hx Q => evOK_plain ho hg (hx Q)) h
        exact ⟨es, s', q⟩
      · rename_i j want hg
        split at h
        · exact h.elim
        · rename_i d hd
          obtain ⟨s1, hf1, hk1, h2⟩ := split_at hk h
          have hrs : d ∈ readsOf ops o := by
            unfold readsOf
            rw [hg]
            simp [hd]
          have skip : (∃ b, s1.fn.get d = some (sval (.bool b)) ∧ (b == want) = false) ∨ (∃ vs, s1.fn.get d = some (sval (.tuple vs))) → (s1.appK o.dst none skipOut fun s' => accK draw (skipOut.ev o.dst (readsOf ops o)) acc fun acc => runOps E ops draw r s' acc K) →
              ∃ es s', Chain C ops i s.fn es s'.fn ∧ es.length = (o :: r).length ∧ KN s' ∧ K (accOf draw es acc) s' := by
            intro hsk h2
            rw [appK_eq, accK_eq] at h2
            have hk3 := app_KN hk1 o.dst none skipOut (fun b hb => by cases hb)
            obtain ⟨es, s', c1, c2, c3, c5⟩ := runOps_ok hF hn hT hsp r (i + 1) _ _ K hl' hk3 h2
            refine ⟨skipOut.ev o.dst (readsOf ops o) :: es, s', ⟨?_, ?_⟩, by simp [c2], c3, by rw [hacc]; exact c5⟩
            · intro Q
              rw [← hf1]
              exact evOK_skip ho hg hd hrs hsk rfl rfl rfl hb
            · rw [app_fn (rs := readsOf ops o), hf1] at c1
              exact c1
          split at h2
          · split at h2
            · rename_i vs hvs
              exact skip (.inr ⟨vs, hvs⟩) h2
            · exact h2.elim
          · rename_i b hb'
            have hget : s1.fn.get d = some (sval (.bool b)) := hk1 d b hb'
            split at h2
            · rename_i hw
              have hbw : b = want := by simpa using hw
              subst hbw
              exact one s1 hf1 hk1 hb hst (fun x hx Q => evOK_guard ho hg hd hrs hget (hx Q)) h2
            · rename_i hw
              exact skip (.inl ⟨b, hget, hw⟩) h2

/-! ### Regions -/
def evDef : Ev SV Atom := ⟨none, sval undef, [], [], []⟩
theorem chain_at {C : Cx} {ops : Array Oper} : ∀ (es : List (Ev SV Atom)) (i : Nat) (S S' : FS SV Atom), Chain C ops i S es S' →
    (∀ k, k < es.length → ∀ Q, EvOK C.P ops Q (Sat C) (fsAt S (fun k => es.getD k evDef) (fun _ => true) k) (i + k) (es.getD k evDef)) ∧ fsAt S (fun k => es.getD k evDef) (fun _ => true) es.length = S'
  | [], i, S, S', h => ⟨fun k hk => by simp at hk, h.symm⟩
  | e :: es, i, S, S', ⟨h1, h2⟩ => by
    obtain ⟨p1, p2⟩ := chain_at es (i + 1) _ _ h2
    have shift : ∀ n, fsAt S (fun k => (e :: es).getD k evDef) (fun _ => true) (n + 1) = fsAt (S.app e) (fun k => es.getD k evDef) (fun _ => true) n := by
      intro n
      induction n with
      | zero => simp [fsAt]
      | succ n ih =>
        rw [fsAt, if_pos rfl, ih]
        conv => rhs; rw [fsAt, if_pos rfl]
        simp
    refine ⟨fun k hk Q => ?_, by rw [List.length_cons, shift]; exact p2⟩
    cases k with
    | zero => simpa [fsAt] using h1 Q
    | succ k =>
      rw [shift]
      have := p1 k (by simpa using hk) Q
      rw [show i + 1 + k = i + (k + 1) by omega] at this
      simpa using this

/-- The bits of what stands ahead of each operation. -/
def befL : List Oper → List Nat → List Nat
  | [], acc => acc
  | o :: r, acc => befL r (acc ++ [o.after.toList.foldl (fun s e => if Region.binds .any e then s ||| 2 ^ e.on ||| acc.getD e.on 0 else s) 0])
def backB : List Oper → Nat → Bool
  | [], _ => true
  | o :: r, i => o.after.toList.all (fun e => !Region.binds .any e || decide (e.on < i)) && backB r (i + 1)
def pairB (bef : List Nat) (e : Fp) (k : Nat) : List Fp → Nat → Bool
  | [], _ => true
  | f :: r, i => (!clashF e f || (bef.getD i 0).testBit k) && pairB bef e k r (i + 1)
def pairsB (bef : List Nat) : List Fp → Nat → Bool
  | [], _ => true
  | e :: r, k => pairB bef e k r (k + 1) && pairsB bef r (k + 1)
def drawB (ops : Array Oper) (acc : List Fp) : Bool := backB ops.toList 0 && pairsB (befL ops.toList []) acc.reverse 0

theorem backB_ok : ∀ (l : List Oper) (i : Nat), backB l i = true → ∀ j o, l[j]? = some o → ∀ e ∈ o.after.toList, Region.binds .any e = true → e.on < i + j
  | [], i, _, j, o, hj, _, _, _ => by simp at hj
  | x :: r, i, h, j, o, hj, e, he, hb => by
    simp only [backB, Bool.and_eq_true] at h
    cases j with
    | zero =>
      simp at hj
      subst hj
      have := List.all_eq_true.1 h.1 e he
      simpa [hb] using this
    | succ j =>
      have := backB_ok r (i + 1) h.2 j o (by simpa using hj) e he hb
      omega

theorem pairB_ok {bef : List Nat} {e : Fp} {k : Nat} : ∀ (l : List Fp) (i : Nat), pairB bef e k l i = true → ∀ j f, l[j]? = some f → clashF e f = true → (bef.getD (i + j) 0).testBit k = true
  | [], i, _, j, f, hj, _ => by simp at hj
  | x :: r, i, h, j, f, hj, hc => by
    simp only [pairB, Bool.and_eq_true, Bool.or_eq_true, Bool.not_eq_true'] at h
    cases j with
    | zero =>
      simp at hj
      subst hj
      rcases h.1 with h | h
      · rw [hc] at h; cases h
      · simpa using h
    | succ j =>
      have := pairB_ok r (i + 1) h.2 j f (by simpa using hj) hc
      rwa [show i + 1 + j = i + (j + 1) by omega] at this

theorem pairsB_ok {bef : List Nat} : ∀ (l : List Fp) (k : Nat), pairsB bef l k = true → ∀ j i e f, j < i → l[j]? = some e → l[i]? = some f → clashF e f = true → (bef.getD (k + i) 0).testBit (k + j) = true
  | [], k, _, j, i, e, f, _, hj, _, _ => by simp at hj
  | x :: r, k, h, j, i, e, f, hji, hj, hi, hc => by
    simp only [pairsB, Bool.and_eq_true] at h
    cases j with
    | zero =>
      simp at hj
      subst hj
      obtain ⟨m, rfl⟩ : ∃ m, i = m + 1 := ⟨i - 1, by omega⟩
      have := pairB_ok r (k + 1) h.1 m f (by simpa using hi) hc
      rwa [show k + 1 + m = k + (m + 1) by omega] at this
    | succ j =>
      obtain ⟨m, rfl⟩ : ∃ m, i = m + 1 := ⟨i - 1, by omega⟩
      have := pairsB_ok r (k + 1) h.2 j m e f (by omega) (by simpa using hj) (by simpa using hi) hc
      rwa [show k + 1 + m = k + (m + 1) by omega, show k + 1 + j = k + (j + 1) by omega] at this

theorem foldl_mono (f : Edge → Nat) (g : Edge → Bool) : ∀ (l : List Edge) (s k : Nat), s.testBit k = true → (l.foldl (fun s e => if g e then s ||| 2 ^ e.on ||| f e else s) s).testBit k = true
  | [], s, k, h => h
  | e :: l, s, k, h => by
    simp only [List.foldl_cons]
    apply foldl_mono f g l
    split
    · simp [Nat.testBit_or, h]
    · exact h
theorem foldl_has (f : Edge → Nat) (g : Edge → Bool) : ∀ (l : List Edge) (s k : Nat) (e : Edge), e ∈ l → g e = true → (k = e.on ∨ (f e).testBit k = true) → (l.foldl (fun s e => if g e then s ||| 2 ^ e.on ||| f e else s) s).testBit k = true
  | [], s, k, e, he, _, _ => by simp at he
  | x :: l, s, k, e, he, hg, hk => by
    simp only [List.foldl_cons]
    rcases List.mem_cons.1 he with he | he
    · subst he
      rw [if_pos hg]
      apply foldl_mono f g l
      rcases hk with hk | hk
      · subst hk; simp [Nat.testBit_or]
      · simp [Nat.testBit_or, hk]
    · exact foldl_has f g l _ k e he hg hk

/-- What befL tells of a place: the bits of its own edges over the places ahead. -/
theorem befL_spec : ∀ (l : List Oper) (acc : List Nat), (∀ j, j < acc.length → (befL l acc).getD j 0 = acc.getD j 0) ∧
    ∀ j o, l[j]? = some o → (∀ e ∈ o.after.toList, Region.binds .any e = true → e.on < acc.length + j) → ∀ k, ((befL l acc).getD (acc.length + j) 0).testBit k = true →
      ∃ e ∈ o.after.toList, Region.binds .any e = true ∧ (k = e.on ∨ ((befL l acc).getD e.on 0).testBit k = true)
  | [], acc => ⟨fun _ _ => rfl, fun j o hj => by simp at hj⟩
  | o :: r, acc => by
    obtain ⟨p1, p2⟩ := befL_spec r (acc ++ [o.after.toList.foldl (fun s e => if Region.binds .any e then s ||| 2 ^ e.on ||| acc.getD e.on 0 else s) 0])
    simp only [List.length_append, List.length_cons, List.length_nil] at p1 p2
    refine ⟨fun j hj => ?_, fun j o' hj hb k hk => ?_⟩
    · simp only [befL]
      rw [p1 j (by omega)]
      simp [List.getD, List.getElem?_append_left hj]
    · simp only [befL] at hk ⊢
      cases j with
      | zero =>
        simp at hj
        subst hj
        rw [Nat.add_zero, p1 acc.length (by omega)] at hk
        have e1 : (acc ++ [o.after.toList.foldl (fun s e => if Region.binds .any e then s ||| 2 ^ e.on ||| acc.getD e.on 0 else s) 0]).getD acc.length 0 = o.after.toList.foldl (fun s e => if Region.binds .any e then s ||| 2 ^ e.on ||| acc.getD e.on 0 else s) 0 := by simp [List.getD]
        rw [e1] at hk
        rcases foldl_bits (fun e => acc.getD e.on 0) (fun e => Region.binds .any e) _ _ _ hk with hk | ⟨e, he, hg, hk⟩
        · simp at hk
        · refine ⟨e, he, hg, hk.imp id (fun hk => ?_)⟩
          have hlt := hb e he hg
          rw [p1 e.on (by omega)]
          simp only [List.getD, List.getElem?_append_left (show e.on < acc.length by omega)]
          exact hk
      | succ j =>
        have := p2 j o' (by simpa using hj) (fun e he hbd => by have := hb e he hbd; omega) k (by rwa [show acc.length + 1 + j = acc.length + (j + 1) by omega])
        exact this

theorem befL_anc {ops : Array Oper} (hb : backB ops.toList 0 = true) : ∀ (fuel i k : Nat), i < fuel → i < ops.size → ((befL ops.toList []).getD i 0).testBit k = true → (anc .any ops fuel i).testBit k = true
  | 0, i, k, h, _, _ => by omega
  | fuel + 1, i, k, h, hi, hk => by
    obtain ⟨o, ho⟩ : ∃ o, ops[i]? = some o := ⟨ops[i], Array.getElem?_eq_getElem hi⟩
    have ho' : ops.toList[i]? = some o := by simpa using ho
    have hback := backB_ok ops.toList 0 hb i o ho'
    obtain ⟨e, he, hg, hk'⟩ := (befL_spec ops.toList []).2 i o ho' (by simpa using hback) k (by simpa using hk)
    have hlt := hback e he hg
    simp only [anc, ho]
    refine foldl_has (fun e => anc .any ops fuel e.on) (fun e => Region.binds .any e) _ _ _ e he hg (hk'.imp id (fun hk' => befL_anc hb fuel e.on k (by omega) (by omega) hk'))

def drawn (ops : Array Oper) (acc : List Fp) (draw : Bool) (q : Prop) : Prop :=
  match draw with
  | false => q
  | true => drawB ops acc = true ∧ q
theorem drawn_ok {ops : Array Oper} {acc : List Fp} {draw : Bool} {q : Prop} (h : drawn ops acc draw q) : (draw = true → drawB ops acc = true) ∧ q := by
  cases draw with
  | false => exact ⟨fun e => (by cases e), h⟩
  | true => exact ⟨fun _ => h.1, h.2⟩

theorem region_ok {C : Cx} {E : En} (hm : C.P.follows .mixedOrders = true) (hF : C.F = E.F) (hn : C.n = E.n) (hT : TOK C.P E.T) (hsp : SpecsOK C.P E.sp) {id : Nat} {ops : Array Oper} {draw : Bool} {s : SS} (hk : KN s) {K : SS → Prop}
    (h : runOps E ops draw ops.toList s [] fun acc s' => drawn ops acc draw (K s')) :
    ∃ s', KN s' ∧ K s' ∧ ∀ a w, Sat C s.fn a w → (Code.region id ops draw).wp C.P (fun e a w => e = .normal ∧ Sat C s'.fn a w) a w := by
  obtain ⟨es, s', c1, c2, c3, hdK⟩ := runOps_ok hF hn hT hsp ops.toList 0 s [] _ (fun j => by simp) hk h
  obtain ⟨hd, hK⟩ := drawn_ok hdK
  refine ⟨s', c3, hK, fun a w hs => ?_⟩
  obtain ⟨p1, p2⟩ := chain_at es 0 _ _ c1
  have hlen : es.length = ops.size := by simpa using c2
  cases draw with
  | false =>
    refine wp_region ?_
    -- one behind the other
    have seq : ∀ (n k : Nat) a w, k + n = ops.size → Sat C (fsAt s.fn (fun k => es.getD k evDef) (fun _ => true) k) a w → wpOps C.P ops (fun e a w => e = .normal ∧ Sat C s'.fn a w) (List.range' k n) a w := by
      intro n
      induction n with
      | zero =>
        intro k a w hk hs
        have : k = es.length := by omega
        subst this
        rw [p2] at hs
        exact ⟨rfl, hs⟩
      | succ n ih =>
        intro k a w hk hs
        rw [List.range'_succ, wpOps_cons]
        have := p1 k (by omega) (fun e a w => e = .normal ∧ Sat C s'.fn a w) _ a w hs (Ev.agree_refl _ _)
        rw [Nat.zero_add] at this
        refine wpOp_mono ?_ this
        intro a' w' h'
        refine ih (k + 1) a' w' (by omega) ?_
        simp only [fsAt, if_true]
        exact h'
    have := seq ops.size 0 a w (by omega) hs
    rwa [← List.range_eq_range'] at this
  | true =>
    have hdr := hd rfl
    unfold drawB at hdr
    simp only [Bool.and_eq_true, accOf, List.append_nil, List.reverse_reverse] at hdr
    have hback : backward .any ops := fun i o ho e he hb => by
      have := backB_ok ops.toList 0 hdr.1 i o (by simpa using ho) e he hb
      simpa using this
    refine wp_region_any hm ?_
    refine wpAny_events (Sat C) (S := s.fn) (ev := fun k => es.getD k evDef) hback (fun i hi => ?_) ?_ ?_ ops.size (Array.replicate ops.size false) a _ (by simp) ?_ ?_ ?_ ?_
    · have := p1 i (by omega) (fun e a w => e = .normal ∧ Sat C s'.fn a w)
      rwa [Nat.zero_add] at this
    · intro k i hki hi hcl
      have hek : (es.map Ev.fp)[k]? = some (es.getD k evDef).fp := by rw [List.getElem?_map, List.getD, List.getElem?_eq_getElem (by omega)]; rfl
      have hei : (es.map Ev.fp)[i]? = some (es.getD i evDef).fp := by rw [List.getElem?_map, List.getD, List.getElem?_eq_getElem (by omega)]; rfl
      have := pairsB_ok (es.map Ev.fp) 0 hdr.2 k i _ _ hki hek hei hcl
      simp only [Nat.zero_add] at this
      exact befL_anc hdr.1 ops.size i k hi hi this
    · intro a w hs'
      rw [← hlen, p2] at hs'
      exact ⟨rfl, hs'⟩
    · intro i hi o ho e he hb
      simp only [Array.getD_eq_getD_getElem?, Array.getElem?_replicate] at hi
      split at hi <;> simp at hi
    · intro k hk _; omega
    · simp
    · have : fsAt s.fn (fun k => es.getD k evDef) (fun k => (Array.replicate ops.size false).getD k false) ops.size = s.fn := by
        have none_ : ∀ n, fsAt s.fn (fun k => es.getD k evDef) (fun k => (Array.replicate ops.size false).getD k false) n = s.fn := by
          intro n
          induction n with
          | zero => rfl
          | succ n ih =>
            have hf : (Array.replicate ops.size false).getD n false = false := by
              simp only [Array.getD_eq_getD_getElem?, Array.getElem?_replicate]
              split <;> rfl
            simp only [fsAt, hf, Bool.false_eq_true, if_false]
            exact ih
        exact none_ _
      rw [this]
      exact hs.drawn _

end Go.Sy
