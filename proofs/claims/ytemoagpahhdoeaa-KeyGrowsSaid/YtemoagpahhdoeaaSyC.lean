/- Operations read symbolically, each proved to be the event that it is told as. No condition. -/
import Derived.Test.YtemoagpahhdoeaaSyB
namespace Go.Sy
set_option linter.unusedSimpArgs false
set_option linter.unusedVariables false

/-! ### Types -/
structure TI where
  agg : Bool := false
  size : Nat := 1
  zero : List Value
  flds : List (Nat × TypeId) := []
  arr : List (Nat × TypeId) := []
  el : Option TypeId := none
  ik : Option IntKind := none
  eqk : Bool := false
  bl : Bool := false
  byt : Nat := 8
  mpk : Option IntKind := none
  arn : Option (TypeId × Nat) := none
  big : Bool := false

def tiFlds : TypeDesc → List (Nat × TypeId)
  | .struct fs => fs.toList.map fun f => (f.offset, f.type)
  | _ => []
def tiArr (P : Program) : TypeDesc → List (Nat × TypeId)
  | .array n e => match P.info? e with
    | some j => (List.range n).map fun k => (k * j.size, e)
    | none => []
  | _ => []
def isIntT (P : Program) (t : TypeId) : Bool := match P.underlying t with | some (.int _) => true | _ => false
def tiEq (P : Program) (t : TypeId) : TypeDesc → Bool
  | .struct fs => fs.toList.all (fun f => !(f.name == "_") && isIntT P f.type) && (fs.toList.map fun f => f.offset) == List.range fs.size && !P.stoodInHeld t && !P.eqGuardType P.depth t
  | _ => false
def tiAgg : TypeDesc → Bool
  | .struct _ | .array _ _ => true
  | _ => false
def tiEl : TypeDesc → Option TypeId
  | .slice e => some e
  | _ => none
def tiInt : TypeDesc → Option IntKind
  | .int k => some k
  | _ => none
def tiBool : TypeDesc → Bool
  | .bool => true
  | _ => false
def tiArn : TypeDesc → Option (TypeId × Nat)
  | .array n e => some (e, n)
  | _ => none
def allI0 : List Value → Bool
  | [] => true
  | .int .i64 0 :: r => allI0 r
  | _ => false
def tiBig (n : Nat) (l : List Value) : Bool := Nat.ble 17 n && Nat.beq l.length n && allI0 l
/-- A map from whole numbers to Bools: the kind of its keys. -/
def tiMap (P : Program) : TypeDesc → Option IntKind
  | .map kt et => match P.underlying kt, P.info? et with
    | some (.int k), some j => match j.zero with
      | some (.bool false) => some k
      | _ => none
    | _, _ => none
  | _ => none
def tiOf (P : Program) (t : TypeId) : Option TI :=
  match P.underlying t, P.info? t with
  | some d, some i => match i.zero with
    | some z => some { agg := tiAgg d, size := i.size, zero := z.cells.toList, flds := tiFlds d, arr := tiArr P d, el := tiEl d, ik := tiInt d, eqk := tiEq P t d, bl := tiBool d, byt := i.bytes, mpk := tiMap P d, arn := tiArn d, big := tiBig i.size z.cells.toList }
    | none => none
  | _, _ => none

abbrev TT := TypeId → Option TI
def TOK (P : Program) (T : TT) : Prop := ∀ t i, T t = some i → tiOf P t = some i

theorem ti_spec {P : Program} {t : TypeId} {i : TI} (h : tiOf P t = some i) : ∃ d inf z, P.underlying t = some d ∧ P.info? t = some inf ∧ inf.size = i.size ∧ inf.zero = some z ∧ z.cells.toList = i.zero ∧
    tiAgg d = i.agg ∧ tiFlds d = i.flds ∧ tiArr P d = i.arr ∧ tiEl d = i.el ∧ tiInt d = i.ik ∧ tiEq P t d = i.eqk ∧ tiBool d = i.bl ∧ inf.bytes = i.byt := by
  unfold tiOf at h
  split at h
  · rename_i d inf h1 h2
    split at h
    · rename_i z h3
      cases h
      exact ⟨d, inf, z, h1, h2, rfl, h3, rfl, rfl, rfl, rfl, rfl, rfl, rfl, rfl, rfl⟩
    · cases h
  · cases h

theorem ti_map {P : Program} {t : TypeId} {i : TI} {k : IntKind} (h : tiOf P t = some i) (hk : i.mpk = some k) : ∃ kt et inf, P.underlying t = some (.map kt et) ∧ P.underlying kt = some (.int k) ∧ P.info? et = some inf ∧ inf.zero = some (.bool false) := by
  unfold tiOf at h
  split at h
  · rename_i d inf h1 h2
    split at h
    · rename_i z h3
      cases h
      cases d <;> simp only [tiMap, reduceCtorEq] at hk
      rename_i kt et
      split at hk
      · rename_i k' j h4 h5
        split at hk
        · rename_i h6
          cases hk
          exact ⟨kt, et, j, h1, h4, h5, h6⟩
        · cases hk
      · cases hk
    · cases h
  · cases h

theorem ti_arn {P : Program} {t : TypeId} {i : TI} (h : tiOf P t = some i) {e : TypeId} {n : Nat} (hn : i.arn = some (e, n)) : P.underlying t = some (.array n e) := by
  unfold tiOf at h
  split at h
  · rename_i d inf h1 h2
    split at h
    · rename_i z h3
      cases h
      simp only at hn
      cases d <;> simp only [tiArn, reduceCtorEq, Option.some.injEq, Prod.mk.injEq] at hn
      obtain ⟨rfl, rfl⟩ := hn
      exact h1
    · cases h
  · cases h
theorem allI0_ok : ∀ {l : List Value}, allI0 l = true → l = List.replicate l.length (.int .i64 0)
  | [], _ => rfl
  | v :: r, h => by
    unfold allI0 at h
    split at h
    · rename_i e; cases e
    · rename_i r' e
      cases e
      rw [List.length_cons, List.replicate_succ, ← allI0_ok h]
    · cases h
theorem ti_big {P : Program} {t : TypeId} {i : TI} (h : tiOf P t = some i) (hb : i.big = true) : i.zero = List.replicate i.size (.int .i64 0) := by
  unfold tiOf at h
  split at h
  · split at h
    · rename_i z h3
      cases h
      simp only [tiBig, Bool.and_eq_true] at hb ⊢
      have h1 := allI0_ok hb.2
      rw [Nat.eq_of_beq_eq_true hb.1.2] at h1
      exact h1
    · cases h
  · cases h

theorem run_isAgg {P : Program} {t : TypeId} {i : TI} (h : tiOf P t = some i) (w : World) : (isAgg t).run P w = .ok i.agg w := by
  obtain ⟨d, inf, z, h1, h2, h3, h4, h5, h6, h7⟩ := ti_spec h
  simp only [isAgg, Sem.run_bind, run_underlying h1, Result.andThen_ok]
  cases d <;> simp only [tiAgg] at h6 <;> simp [← h6]
theorem run_size {P : Program} {t : TypeId} {i : TI} (h : tiOf P t = some i) (w : World) : (sizeOf t).run P w = .ok i.size w := by
  obtain ⟨d, inf, z, h1, h2, h3, h4, h5, h6, h7⟩ := ti_spec h
  simp [sizeOf, typeInfo, h2, h3]
theorem run_zero {P : Program} {t : TypeId} {i : TI} (h : tiOf P t = some i) (w : World) : ∃ z, (zeroValue t).run P w = .ok z w ∧ z.cells.toList = i.zero := by
  obtain ⟨d, inf, z, h1, h2, h3, h4, h5, h6, h7⟩ := ti_spec h
  exact ⟨z, by simp [zeroValue, typeInfo, h2, h4], h5⟩

/-! ### Numbers, behind names -/
@[irreducible] def iadd (k : IntKind) (a b : Int) : Int := k.wrap (a + b)
@[irreducible] def isub (k : IntKind) (a b : Int) : Int := k.wrap (a - b)
@[irreducible] def imul (k : IntKind) (a b : Int) : Int := k.wrap (a * b)
@[irreducible] def iquo (k : IntKind) (a b : Int) : Int := k.wrap (a.tdiv b)
@[irreducible] def irem (a b : Int) : Int := a.tmod b
@[irreducible] def iand (k : IntKind) (a b : Int) : Int := k.wrap (BitVec.ofInt k.bits a &&& BitVec.ofInt k.bits b).toNat
@[irreducible] def ior (k : IntKind) (a b : Int) : Int := k.wrap (BitVec.ofInt k.bits a ||| BitVec.ofInt k.bits b).toNat
@[irreducible] def ixor (k : IntKind) (a b : Int) : Int := k.wrap (BitVec.ofInt k.bits a ^^^ BitVec.ofInt k.bits b).toNat
@[irreducible] def iandn (k : IntKind) (a b : Int) : Int := k.wrap (BitVec.ofInt k.bits a &&& ~~~ BitVec.ofInt k.bits b).toNat
@[irreducible] def ishl (k : IntKind) (a b : Int) : Int := k.wrap (a * 2 ^ (min b.toNat k.bits))
@[irreducible] def ishr (k : IntKind) (a b : Int) : Int := a.fdiv (2 ^ (min b.toNat k.bits))
@[irreducible] def ieq (a b : Int) : Bool := a == b
@[irreducible] def ine (a b : Int) : Bool := a != b
@[irreducible] def ilt (a b : Int) : Bool := decide (a < b)
@[irreducible] def ile (a b : Int) : Bool := decide (a ≤ b)
@[irreducible] def mn (a b : Int) : Int := if b < a then b else a
@[irreducible] def mx (a b : Int) : Int := if a < b then b else a

@[irreducible] def cPos (b : Int) : Prop := 0 ≤ b
@[irreducible] def cNz (b : Int) : Prop := b ≠ 0

def sval (v : Value) : SV := .e (.c (.val v))
def ibin (op : BinOp) (k k' : IntKind) (a b : Int) : Option (Cd × Value) :=
  match op with
  | .shl => some (.p (cPos b), .int k (ishl k a b))
  | .shr => some (.p (cPos b), .int k (ishr k a b))
  | .add => if k = k' then some (.t, .int k (iadd k a b)) else none
  | .sub => if k = k' then some (.t, .int k (isub k a b)) else none
  | .mul => if k = k' then some (.t, .int k (imul k a b)) else none
  | .quo => if k = k' then some (.p (cNz b), .int k (iquo k a b)) else none
  | .rem => if k = k' then some (.p (cNz b), .int k (irem a b)) else none
  | .and => if k = k' then some (.t, .int k (iand k a b)) else none
  | .or => if k = k' then some (.t, .int k (ior k a b)) else none
  | .xor => if k = k' then some (.t, .int k (ixor k a b)) else none
  | .andNot => if k = k' then some (.t, .int k (iandn k a b)) else none
  | .eql => if k = k' then some (.t, .bool (ieq a b)) else none
  | .neq => if k = k' then some (.t, .bool (ine a b)) else none
  | .lss => if k = k' then some (.t, .bool (ilt a b)) else none
  | .leq => if k = k' then some (.t, .bool (ile a b)) else none
  | .gtr => if k = k' then some (.t, .bool (ilt b a)) else none
  | .geq => if k = k' then some (.t, .bool (ile b a)) else none

theorem ibin_run {P : Program} {op : BinOp} {k k' : IntKind} {a b : Int} {c : Cd} {v : Value} (h : ibin op k k' a b = some (c, v)) (hc : c.holds) (xt : TypeId) (x y : Operand) (w : World) :
    (do eqGuard op xt x y (.int k a) (.int k' b); binOp op xt (.int k a) (.int k' b) : Sem Value).run P w = .ok v w := by
  have hg : (eqGuard op xt x y (.int k a) (.int k' b)).run P w = .ok () w := by
    unfold eqGuard
    cases op <;> rfl
  simp only [Sem.run_bind, hg, Result.andThen_ok]
  cases op <;> simp only [ibin] at h
  case shl =>
    cases h
    have hn : ¬ b < 0 := by simp only [Cd.holds] at hc; unfold cPos at hc; omega
    simp [binOp, Op.shift, hn, ishl]
  case shr =>
    cases h
    have hn : ¬ b < 0 := by simp only [Cd.holds] at hc; unfold cPos at hc; omega
    simp [binOp, Op.shift, hn, ishr]
  all_goals
    split at h
    · rename_i hk
      subst hk
      cases h
      first
        | (simp [binOp, Op.intArith, iadd, isub, imul]; done)
        | (simp only [Cd.holds] at hc; unfold cNz at hc; simp [binOp, Op.intDiv, iquo, irem, hc]; done)
        | (simp [binOp, Op.intBits, iand, ior, ixor, iandn]; done)
        | (simp [binOp, Op.intCmp, ieq, ine, ilt, ile]; done)
    · cases h

/-- A part of a list of cells is written anew. -/
def setCs : List SC → Nat → List SC → List SC
  | l, 0, [] => l
  | l, 0, u :: us => match l with
    | [] => []
    | _ :: r => u :: setCs r 0 us
  | [], _ + 1, _ => []
  | c :: r, o + 1, us => c :: setCs r o us

theorem setCs_len : ∀ (l : List SC) (o : Nat) (us : List SC), (setCs l o us).length = l.length
  | l, 0, [] => by simp [setCs]
  | [], 0, u :: us => by simp [setCs]
  | c :: r, 0, u :: us => by simp [setCs, setCs_len r 0 us]
  | [], o + 1, us => by simp [setCs]
  | c :: r, o + 1, us => by simp [setCs, setCs_len r o us]

theorem setCs_get : ∀ (l : List SC) (o : Nat) (us : List SC) (k : Nat), o + us.length ≤ l.length → (setCs l o us)[k]? = if o ≤ k ∧ k < o + us.length then us[k - o]? else l[k]?
  | l, 0, [], k, h => by simp [setCs]
  | [], 0, u :: us, k, h => by simp at h
  | c :: r, 0, u :: us, 0, h => by simp [setCs]
  | c :: r, 0, u :: us, k + 1, h => by
    simp only [setCs, List.getElem?_cons_succ]
    rw [setCs_get r 0 us k (by simp at h; omega)]
    simp
  | [], o + 1, us, k, h => by simp at h
  | c :: r, o + 1, us, 0, h => by simp [setCs]
  | c :: r, o + 1, us, k + 1, h => by
    simp only [setCs, List.getElem?_cons_succ]
    rw [setCs_get r o us k (by simp at h; omega)]
    have : (o ≤ k ∧ k < o + us.length) ↔ (o + 1 ≤ k + 1 ∧ k + 1 < o + 1 + us.length) := by omega
    simp only [this]
    simp

theorem setCs_mem : ∀ (l : List SC) (o : Nat) (us : List SC) (c : SC), c ∈ setCs l o us → c ∈ l ∨ c ∈ us
  | l, 0, [], c, h => .inl (by simpa [setCs] using h)
  | [], 0, u :: us, c, h => by simp [setCs] at h
  | b :: r, 0, u :: us, c, h => by
    simp only [setCs, List.mem_cons] at h ⊢
    rcases h with h | h
    · exact .inr (.inl h)
    · rcases setCs_mem r 0 us c h with h | h
      · exact .inl (.inr h)
      · exact .inr (.inr h)
  | [], o + 1, us, c, h => by simp [setCs] at h
  | b :: r, o + 1, us, c, h => by
    simp only [setCs, List.mem_cons] at h ⊢
    rcases h with h | h
    · exact .inl (.inl h)
    · rcases setCs_mem r o us c h with h | h
      · exact .inl (.inr h)
      · exact .inr h

theorem allOne_mem {cs : List SC} (h : allOne cs = true) {c : SC} (hc : c ∈ cs) : c.one = true := List.all_eq_true.1 h c hc
theorem allOne_of {cs : List SC} (h : ∀ c ∈ cs, c.one = true) : allOne cs = true := List.all_eq_true.2 h

theorem SC.one_den {c : SC} (h : c.one = true) (ρ : Env) : (c.den ρ).oneCell' = true := by
  cases c <;> first | exact h | rfl

theorem den_cells {v : SE} (h : allOne v.cells = true) (ρ : Env) : (v.den ρ).cells = (v.cells.map (SC.den ρ)).toArray := by
  cases v with
  | agg cs => rfl
  | arr xs => simp [SE.den, SE.cells, Value.cells, SC.den, Function.comp_def]
  | c x =>
    have h1 := SC.one_den (allOne_mem h (c := x) (by simp [SE.cells])) ρ
    show (x.den ρ).cells = #[x.den ρ]
    generalize x.den ρ = v at h1 ⊢
    cases v <;> first | rfl | (simp [Value.oneCell'] at h1; done)

theorem addr_add (g o j : Nat) : (⟨g, o, none⟩ : Addr).add j = ⟨g, o + j, none⟩ := by
  unfold Addr.add
  split
  · simp_all
  · rfl

theorem setCells_far {g : Nat} : ∀ (vs : List Value) (o : Nat) {w : World} (k : Nat), k ≠ g → (w.setCells g o vs).heap[k]? = w.heap[k]?
  | [], _, _, _, _ => rfl
  | v :: vs, o, w, k, h => by
    simp only [World.setCells]
    rw [setCells_far vs _ k h, Go.RowKit.Below.heap_setCell _ _ _ _ h]

theorem setCells_same (g : Nat) : ∀ (vs : List Value) (o : Nat) (w : World), (w.setCells g o vs).os = w.os ∧ (w.setCells g o vs).tape = w.tape ∧ (w.setCells g o vs).output = w.output ∧ (w.setCells g o vs).heap.size = w.heap.size
  | [], _, _ => ⟨rfl, rfl, rfl, rfl⟩
  | v :: vs, o, w => by
    simp only [World.setCells]
    have := setCells_same g vs (o + 1) (w.setCell ⟨g, o, none⟩ v)
    refine ⟨this.1, this.2.1, this.2.2.1, this.2.2.2.trans (by simp)⟩

theorem setCells_row {g : Nat} {e : TypeId} : ∀ (vs : List Value) (o : Nat) (w : World) (cur : Array Value), w.heap[g]? = some (.cells cur e (0, 0)) → o + vs.length ≤ cur.size →
    ∃ cur' : Array Value, (w.setCells g o vs).heap[g]? = some (.cells cur' e (0, 0)) ∧ cur'.size = cur.size ∧ ∀ k, cur'[k]? = if o ≤ k ∧ k < o + vs.length then vs[k - o]? else cur[k]?
  | [], o, w, cur, h, hl => ⟨cur, h, rfl, fun k => by rw [if_neg (by simp)]⟩
  | v :: vs, o, w, cur, h, hl => by
    simp only [List.length_cons] at hl
    have h1 : (w.setCell ⟨g, o, none⟩ v).heap[g]? = some (.cells (cur.setIfInBounds o v) e (0, 0)) := by
      simp [World.setCell, Array.getElem?_modify, h]
    obtain ⟨cur', p1, p2, p3⟩ := setCells_row vs (o + 1) _ _ h1 (by simp; omega)
    refine ⟨cur', p1, by simpa using p2, fun k => ?_⟩
    rw [p3 k]
    by_cases e1 : k = o
    · subst e1
      have : ¬ (k + 1 ≤ k ∧ k < k + 1 + vs.length) := by omega
      simp only [this, if_false, List.length_cons]
      have : (k ≤ k ∧ k < k + (vs.length + 1)) := by omega
      simp only [this, if_true]
      have hk : k < cur.size := by omega
      simp [Array.getElem?_setIfInBounds, hk]
    · by_cases e2 : o + 1 ≤ k ∧ k < o + 1 + vs.length
      · have e3 : o ≤ k ∧ k < o + (vs.length + 1) := by omega
        simp only [e2, and_self, if_true, List.length_cons, e3]
        obtain ⟨m, rfl⟩ : ∃ m, k = o + 1 + m := ⟨k - (o + 1), by omega⟩
        rw [show o + 1 + m - (o + 1) = m by omega, show o + 1 + m - o = m + 1 by omega]
        simp
      · have e3 : ¬ (o ≤ k ∧ k < o + (vs.length + 1)) := by omega
        simp only [e2, if_false, List.length_cons, e3]
        rw [Array.getElem?_setIfInBounds_ne (fun q => e1 q.symm)]

/-! ### Single operations -/
section
variable {C : Cx} {Q : Exit → Act → World → Prop} {S : FS SV Atom} {o : Oper} {e : Ev SV Atom} (hb : ∀ d, e.dst = some d → d < C.n)
include hb

theorem op_move {x : Operand} (ho : o.op = .move x ∨ o.op = .assign x) (hd : o.dst = e.dst) (hw : e.wa = []) (hr : ∀ t ∈ tmpsOf [x], t ∈ e.rs) (hx : opd S.get x = some e.v) : OpOK C Q S o e := by
  refine opOK_pure hd hb hw (fun T a w ρ h h1 h2 h3 => ?_)
  obtain ⟨k1, k2⟩ := opd_den h1 hx (agree_opd h3 hr (by simp))
  refine ⟨?_, k2⟩
  rcases ho with ho | ho <;> simp [execOp, ho, k1]

theorem op_pick {c x y : Operand} {b : Bool} (ho : o.op = .pick c x y) (hd : o.dst = e.dst) (hw : e.wa = []) (hr : ∀ t ∈ tmpsOf [c, x, y], t ∈ e.rs) (hc : opd S.get c = some (sval (.bool b)))
    (hx : opd S.get (if b then x else y) = some e.v) : OpOK C Q S o e := by
  refine opOK_pure hd hb hw (fun T a w ρ h h1 h2 h3 => ?_)
  obtain ⟨k1, _⟩ := opd_den h1 hc (agree_opd h3 hr (by simp))
  obtain ⟨k3, k4⟩ := opd_den h1 hx (agree_opd h3 hr (by cases b <;> simp))
  refine ⟨?_, k4⟩
  have k1' : a.eval c = .bool b := k1
  cases b <;> simp [execOp, ho, k1', asBool] <;> simpa using k3

theorem op_bin {op : BinOp} {xt yt : TypeId} {x y : Operand} {k k' : IntKind} {m n : Int} {c : Cd} {v : Value} (ho : o.op = .binOp op xt x y yt) (hd : o.dst = e.dst) (hw : e.wa = []) (hr : ∀ t ∈ tmpsOf [x, y], t ∈ e.rs)
    (hx : opd S.get x = some (sval (.int k m))) (hy : opd S.get y = some (sval (.int k' n))) (hv : ibin op k k' m n = some (c, v)) (hc : c.holds) (he : e.v = sval v) : OpOK C Q S o e := by
  refine opOK_pure hd hb hw (fun T a w ρ h h1 h2 h3 => ?_)
  obtain ⟨k1, _⟩ := opd_den h1 hx (agree_opd h3 hr (by simp))
  obtain ⟨k3, _⟩ := opd_den h1 hy (agree_opd h3 hr (by simp))
  have k1' : a.eval x = .int k m := k1
  have k3' : a.eval y = .int k' n := k3
  rw [he]
  refine ⟨?_, fun c hc => by simp [SE.cells] at hc; subst hc; trivial⟩
  have := ibin_run (P := C.P) hv hc xt x y w
  simp only [execOp, ho, k1', k3']
  rw [Sem.run_bind, this]
  rfl

theorem op_not {xt : TypeId} {x : Operand} {b : Bool} (ho : o.op = .unOp .not xt x) (hd : o.dst = e.dst) (hw : e.wa = []) (hr : ∀ t ∈ tmpsOf [x], t ∈ e.rs) (hx : opd S.get x = some (sval (.bool b))) (he : e.v = sval (.bool !b)) : OpOK C Q S o e := by
  refine opOK_pure hd hb hw (fun T a w ρ h h1 h2 h3 => ?_)
  obtain ⟨k1, _⟩ := opd_den h1 hx (agree_opd h3 hr (by simp))
  have k1' : a.eval x = .bool b := k1
  rw [he]
  refine ⟨by simp [execOp, ho, k1', Op.unary]; rfl, fun c hc => by simp [SE.cells] at hc; subst hc; trivial⟩

omit hb in
theorem cells_new (h : Nat → Hp) {ρ : Env} {cs : List SC} (hc : ∀ c ∈ cs, c.ok ρ) (h1 : allOne cs = true) (t : TypeId) (x c g : Nat) : ∀ ρ', Ext ρ ρ' → ρ' x = some (g, c) → (Atom.blk t cs).sat ρ' x (fun k => if k = g then some (.cells (cs.map (SC.den ρ)).toArray t (0, 0)) else none) := by
  intro ρ' hx hg
  obtain ⟨e1, e2⟩ := cells_ext hx hc
  exact ⟨g, c, hg, by simp [e1], e2, h1⟩

theorem op_alloc {P : Program} {t : TypeId} {i : TI} {x : Nat} (hP : C.P = P) (ht : tiOf P t = some i) (ho : o.op = .alloc t) (hd : o.dst = e.dst) (hx : S.atm x = none) (h1 : allOne (i.zero.map SC.val) = true)
    (hw : e.wa = [(x, .blk t (i.zero.map SC.val))]) (he : e.v = .e (.c (.ptr x 0))) : OpOK C Q S o e := by
  refine opOK_value hd hb (fun T a w ρ h k1 k2 k3 k4 => ?_)
  have hx' : T.atm x = none := (k4.2.2 x (by simp [hw, ids])).trans hx
  obtain ⟨ρ', h', n1, n2, n3⟩ := hsat_new k2 hx' (cells_new h (cs := i.zero.map SC.val) (ρ := ρ) (fun c hc => by obtain ⟨v, _, rfl⟩ := List.mem_map.1 hc; trivial) h1 t x 0 w.heap.size)
  refine ⟨_, ρ', h', ?_, n2, ?_, by rw [← hw] at n1; exact n1, strm_alloc k3 _⟩
  · obtain ⟨z, hz, hz'⟩ := run_zero ht w
    subst hP
    have : ((i.zero.map SC.val).map (SC.den ρ)).toArray = z.cells := by
      rw [← hz', List.map_map]
      have : (SC.den ρ ∘ SC.val) = id := by funext v; rfl
      rw [this]; simp
    rw [he, this]
    simp [execOp, ho, Instr.alloc, hz, newVar, newRow, SV.den, SE.den, SC.den, adr, n3]
  · rw [he]
    intro c hc
    simp [SE.cells] at hc
    subst hc
    simp [SC.ok, n3]

theorem op_box {t : TypeId} {v : Operand} {u : SE} {x : Nat} (ho : o.op = .box t v) (hd : o.dst = e.dst) (hr : ∀ t ∈ tmpsOf [v], t ∈ e.rs) (hv : opd S.get v = some (.e u)) (hx : S.atm x = none) (h1 : allOne u.cells = true)
    (hw : e.wa = [(x, .blk t u.cells)]) (he : e.v = .e (.c (.ptr x 0))) : OpOK C Q S o e := by
  refine opOK_value hd hb (fun T a w ρ h k1 k2 k3 k4 => ?_)
  have hx' : T.atm x = none := (k4.2.2 x (by simp [hw, ids])).trans hx
  obtain ⟨p1, p2⟩ := opd_den k1 hv (agree_opd k4 hr (by simp))
  obtain ⟨ρ', h', n1, n2, n3⟩ := hsat_new k2 hx' (cells_new h (cs := u.cells) p2 h1 t x 0 w.heap.size)
  refine ⟨_, ρ', h', ?_, n2, ?_, by rw [← hw] at n1; exact n1, strm_alloc k3 _⟩
  · have p1' : a.eval v = u.den ρ := p1
    rw [he]
    have hden : (SV.e (SE.c (SC.ptr x 0))).den ρ' = .pointer (some ⟨w.heap.size, 0, none⟩) := by simp [SV.den, SE.den, SC.den, adr, n3]
    simp [execOp, ho, Instr.box, newVar, newRow, hden, p1', den_cells h1]
  · rw [he]
    intro c hc
    simp [SE.cells] at hc
    subst hc
    simp [SC.ok, n3]

omit hb in
theorem drop_take_map (cs : List SC) (ρ : Env) (o n : Nat) : ((cs.drop o).take n).map (SC.den ρ) = ((cs.map (SC.den ρ)).drop o).take n := by
  simp [List.map_take, List.map_drop]

theorem op_load {P : Program} {t te : TypeId} {i : TI} {a' : Operand} {x off : Nat} {cs : List SC} (hP : C.P = P) (ht : tiOf P t = some i) (ho : o.op = .load t a') (hd : o.dst = e.dst) (hw : e.wa = []) (hr : ∀ t ∈ tmpsOf [a'], t ∈ e.rs) (hra : x ∈ e.ra)
    (ha : opd S.get a' = some (.e (.c (.ptr x off)))) (hx : S.atm x = some (.blk te cs))
    (hv : (i.agg = true ∧ off + i.size ≤ cs.length ∧ e.v = .e (.agg ((cs.drop off).take i.size))) ∨ (i.agg = false ∧ ∃ c, cs[off]? = some c ∧ e.v = .e (.c c))) : OpOK C Q S o e := by
  refine opOK_pure hd hb hw (fun T a w ρ h k1 k2 k3 => ?_)
  have hx' : T.atm x = some (.blk te cs) := (k3.2.1 x hra).trans hx
  obtain ⟨p1, p2⟩ := opd_den k1 ha (agree_opd k3 hr (by simp))
  have p1' : a.eval a' = .pointer (some ⟨((ρ x).getD (0, 0)).1, off, none⟩) := p1
  obtain ⟨q1, q2, q3, q4, q5⟩ := atom_blk k2 hx'
  have hcell : ∀ j, w.cell? ⟨((ρ x).getD (0, 0)).1, j, none⟩ = (cs.map (SC.den ρ))[j]? := fun j => by rw [cell_of_row w _ j _ _ _ q1]; simp
  subst hP
  rcases hv with ⟨v1, v2, v3⟩ | ⟨v1, c, v2, v3⟩
  · rw [v3]
    refine ⟨?_, fun c hc => q2 c (List.mem_of_mem_drop (List.mem_of_mem_take hc))⟩
    have hl : (((cs.drop off).take i.size).map (SC.den ρ)).length = i.size := by simp; omega
    have := run_loadCells_list (P := C.P) w ⟨((ρ x).getD (0, 0)).1, off, none⟩ (((cs.drop off).take i.size).map (SC.den ρ)) (fun j v hj => by
      rw [addr_add, hcell]
      rw [drop_take_map, List.getElem?_take] at hj
      split at hj
      · rw [List.getElem?_drop] at hj; exact hj
      · cases hj)
    rw [hl] at this
    simp [execOp, ho, Instr.loadAt, Instr.sureAddr, p1', loadVar, run_isAgg ht, v1, run_size ht, this, SV.den, SE.den]
  · rw [v3]
    refine ⟨?_, fun c' hc => by simp [SE.cells] at hc; subst hc; exact q2 _ (List.mem_of_getElem? v2)⟩
    have := hcell off
    rw [List.getElem?_map, v2] at this
    simp [execOp, ho, Instr.loadAt, Instr.sureAddr, p1', loadVar, run_isAgg ht, v1, this, SV.den, SE.den]

theorem op_field_addr {P : Program} {s ft : TypeId} {i j : TI} {x : Operand} {f y off fo : Nat} (hP : C.P = P) (ht : tiOf P s = some i) (hf : i.flds[f]? = some (fo, ft)) (hft : tiOf P ft = some j) (hj : j.size ≠ 0) (ho : o.op = .fieldAddr s x f) (hd : o.dst = e.dst) (hw : e.wa = []) (hr : ∀ t ∈ tmpsOf [x], t ∈ e.rs)
    (hx : opd S.get x = some (.e (.c (.ptr y off)))) (he : e.v = .e (.c (.ptr y (off + fo)))) : OpOK C Q S o e := by
  refine opOK_pure hd hb hw (fun T a w ρ h k1 k2 k3 => ?_)
  obtain ⟨p1, p2⟩ := opd_den k1 hx (agree_opd k3 hr (by simp))
  have p1' : a.eval x = .pointer (some ⟨((ρ y).getD (0, 0)).1, off, none⟩) := p1
  subst hP
  obtain ⟨d, inf, z, g1, g2, g3, g4, g5, g6, g7, _⟩ := ti_spec ht
  rw [he]
  refine ⟨?_, fun c hc => by simp [SE.cells] at hc; subst hc; exact p2 (.ptr y off) (by simp [SE.cells])⟩
  cases d <;> simp only [tiFlds] at g7 <;> (try (rw [← g7] at hf; simp at hf; done))
  rename_i fs _
  rw [← g7, List.getElem?_map] at hf
  obtain ⟨fl, hfl, hfe⟩ := Option.map_eq_some_iff.1 hf
  cases hfe
  have hfl' : fs[f]? = some fl := by simpa using hfl
  simp [execOp, ho, Instr.fieldAt, run_underlying g1, hfl', Instr.sureAddr, p1', fieldPlace, run_size hft, hj, addr_add, SV.den, SE.den, SC.den, adr]

theorem op_field {P : Program} {s ft : TypeId} {i j : TI} {x : Operand} {f fo : Nat} {cs : List SC} (hP : C.P = P) (ht : tiOf P s = some i) (hf : i.flds[f]? = some (fo, ft)) (hft : tiOf P ft = some j) (ho : o.op = .field s x f) (hd : o.dst = e.dst) (hw : e.wa = []) (hr : ∀ t ∈ tmpsOf [x], t ∈ e.rs)
    (hx : opd S.get x = some (.e (.agg cs))) (hv : (j.agg = true ∧ e.v = .e (.agg ((cs.drop fo).take j.size))) ∨ (j.agg = false ∧ ∃ c, cs[fo]? = some c ∧ e.v = .e (.c c))) : OpOK C Q S o e := by
  refine opOK_pure hd hb hw (fun T a w ρ h k1 k2 k3 => ?_)
  obtain ⟨p1, p2⟩ := opd_den k1 hx (agree_opd k3 hr (by simp))
  have p1' : a.eval x = .agg (cs.map (SC.den ρ)).toArray := p1
  subst hP
  obtain ⟨d, inf, z, g1, g2, g3, g4, g5, g6, g7, _⟩ := ti_spec ht
  cases d <;> simp only [tiFlds] at g7 <;> (try (rw [← g7] at hf; simp at hf; done))
  rename_i fs _
  rw [← g7, List.getElem?_map] at hf
  obtain ⟨fl, hfl, hfe⟩ := Option.map_eq_some_iff.1 hf
  cases hfe
  have hfl' : fs[f]? = some fl := by simpa using hfl
  rcases hv with ⟨v1, v2⟩ | ⟨v1, c, v2, v3⟩
  · rw [v2]
    refine ⟨?_, fun c hc => p2 c (List.mem_of_mem_drop (List.mem_of_mem_take hc))⟩
    simp [execOp, ho, Instr.field, run_underlying g1, hfl', p1', asAgg, part, run_isAgg hft, v1, run_size hft, SV.den, SE.den, drop_take_map]
  · rw [v3]
    refine ⟨?_, fun c' hc => by simp [SE.cells] at hc; subst hc; exact p2 _ (List.mem_of_getElem? v2)⟩
    simp [execOp, ho, Instr.field, run_underlying g1, hfl', p1', asAgg, part, run_isAgg hft, v1, v2, SV.den, SE.den]

theorem op_extract {x : Operand} {n : Nat} {l : List SE} {u : SE} (ho : o.op = .extract x n) (hd : o.dst = e.dst) (hw : e.wa = []) (hr : ∀ t ∈ tmpsOf [x], t ∈ e.rs) (hx : opd S.get x = some (.tup l)) (hu : l[n]? = some u) (he : e.v = .e u) : OpOK C Q S o e := by
  refine opOK_pure hd hb hw (fun T a w ρ h k1 k2 k3 => ?_)
  obtain ⟨p1, p2⟩ := opd_den k1 hx (agree_opd k3 hr (by simp))
  have p1' : a.eval x = .tuple (l.map (SE.den ρ)).toArray := p1
  rw [he]
  refine ⟨?_, p2 u (List.mem_of_getElem? hu)⟩
  simp [execOp, ho, Instr.extract, p1', hu, SV.den]

theorem op_minmax {b : Builtin} {x y : Operand} {ats : Array TypeId} {k k' : IntKind} {m n : Int} (ho : o.op = .call { callee := .builtin b, args := #[x, y], argTypes := ats }) (hd : o.dst = e.dst) (hw : e.wa = []) (hr : ∀ t ∈ tmpsOf [x, y], t ∈ e.rs)
    (hx : opd S.get x = some (sval (.int k m))) (hy : opd S.get y = some (sval (.int k' n))) (he : (b = .min ∧ e.v = sval (.int k (mn m n))) ∨ (b = .max ∧ e.v = sval (.int k (mx m n)))) : OpOK C Q S o e := by
  refine opOK_pure hd hb hw (fun T a w ρ h k1 k2 k3 => ?_)
  obtain ⟨p1, _⟩ := opd_den k1 hx (agree_opd k3 hr (by simp))
  obtain ⟨q1, _⟩ := opd_den k1 hy (agree_opd k3 hr (by simp))
  have p1' : a.eval x = .int k m := p1
  have q1' : a.eval y = .int k' n := q1
  rcases he with ⟨rfl, he⟩ | ⟨rfl, he⟩
  · rw [he]
    refine ⟨?_, fun c hc => by simp [SE.cells] at hc; subst hc; trivial⟩
    simp [execOp, ho, resolve, invoke, builtin, p1', q1', Builtin.min_, Builtin.min2, mn, sval, SV.den, SE.den, SC.den]
  · rw [he]
    refine ⟨?_, fun c hc => by simp [SE.cells] at hc; subst hc; trivial⟩
    simp [execOp, ho, resolve, invoke, builtin, p1', q1', Builtin.max_, Builtin.max2, mx, sval, SV.den, SE.den, SC.den]
end

theorem op_store {C : Cx} {Q : Exit → Act → World → Prop} {S : FS SV Atom} {o : Oper} {e : Ev SV Atom} {P : Program} {t te : TypeId} {i : TI} {a' v : Operand} {x off : Nat} {cs : List SC} {u : SE} (hP : C.P = P) (ht : tiOf P t = some i) (ho : o.op = .store t a' v) (hd : o.dst = none) (hd' : e.dst = none)
    (hr : ∀ t ∈ tmpsOf [a', v], t ∈ e.rs) (ha : opd S.get a' = some (.e (.c (.ptr x off)))) (hv : opd S.get v = some (.e u)) (hx : S.atm x = some (.blk te cs)) (hl : u.cells.length = i.size) (hle : off + i.size ≤ cs.length) (h1 : allOne u.cells = true)
    (hw : e.wa = [(x, .blk te (setCs cs off u.cells))]) : OpOK C Q S o e := by
  refine opOK_skip hd hd' (fun T a w ρ h k1 k2 k3 k4 => ?_)
  have hx' : T.atm x = some (.blk te cs) := (k4.2.2 x (by simp [hw, ids])).trans hx
  obtain ⟨p1, p2⟩ := opd_den k1 ha (agree_opd k4 hr (by simp))
  have p1' : a.eval a' = .pointer (some ⟨((ρ x).getD (0, 0)).1, off, none⟩) := p1
  obtain ⟨r1, r2⟩ := opd_den k1 hv (agree_opd k4 hr (by simp))
  have r1' : a.eval v = u.den ρ := r1
  obtain ⟨q1, q2, q3, q4, q5⟩ := atom_blk k2 hx'
  subst hP
  have hlen : (u.cells.map (SC.den ρ)).length = i.size := by simp [hl]
  obtain ⟨cur', s1, s2, s3⟩ := setCells_row (g := ((ρ x).getD (0, 0)).1) (u.cells.map (SC.den ρ)) off w _ q1 (by simp; omega)
  obtain ⟨t1, t2, t3, t4⟩ := setCells_same ((ρ x).getD (0, 0)).1 (u.cells.map (SC.den ρ)) off w
  have hcur : cur' = ((setCs cs off u.cells).map (SC.den ρ)).toArray := by
    apply Array.ext_getElem?
    intro k
    rw [s3 k]
    simp only [List.getElem?_toArray, List.getElem?_map, List.length_map]
    rw [setCs_get cs off u.cells k (by omega)]
    split <;> rfl
  have hc' : ∀ c ∈ setCs cs off u.cells, c.ok ρ := fun c hc => by
    rcases setCs_mem cs off u.cells c hc with hc | hc
    · exact q2 c hc
    · exact r2 c hc
  have h1' : allOne (setCs cs off u.cells) = true := allOne_of (fun c hc => by
    rcases setCs_mem cs off u.cells c hc with hc | hc
    · exact allOne_mem q3 hc
    · exact allOne_mem h1 hc)
  obtain ⟨pr, hpr⟩ := Option.isSome_iff_exists.1 q4
  obtain ⟨h', hh'⟩ := hsat_turn (A := .blk te (setCs cs off u.cells)) k2 q5 (by rw [hx']; simp) s1 (fun k hk => setCells_far _ _ k hk) ⟨((ρ x).getD (0, 0)).1, ((ρ x).getD (0, 0)).2, by simp [hpr], by simp [hcur], hc', h1'⟩
  refine ⟨w.setCells ((ρ x).getD (0, 0)).1 off (u.cells.map (SC.den ρ)), ρ, h', ?_, Ext.refl ρ, by rw [← hw] at hh'; exact hh', ⟨t1.trans k3.os, t2.trans k3.tape, t3.trans k3.output, by rw [t4]; exact k3.size⟩⟩
  have hst := run_storeCells_cells (P := C.P) ((ρ x).getD (0, 0)).1 off (u.cells.map (SC.den ρ)) 0 w (fun j hj => by
    rw [cell_of_row w _ _ _ _ _ q1]; simp at hj ⊢; omega) (fun j _ => by simp [World.frozen?, q1]) (fun v hv => by
    obtain ⟨c, hc, rfl⟩ := List.mem_map.1 hv
    exact SC.one_den (allOne_mem h1 hc) ρ)
  simp only [Nat.add_zero] at hst
  have hcl : (u.den ρ).cells = (u.cells.map (SC.den ρ)).toArray := den_cells h1 ρ
  simp [execOp, ho, Instr.storeAt, Instr.sureAddr, p1', r1', storeVar, run_size ht, hcl, hl, hst]

end Go.Sy
