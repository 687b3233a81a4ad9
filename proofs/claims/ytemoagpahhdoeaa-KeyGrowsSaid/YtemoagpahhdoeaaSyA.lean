/- A region that draws its order: if each operation is an event on a symbolic state, and whatever two events conflict are ordered by the region's edges, then every order ends in the state of the text's order. No condition. -/
import Derived.Orders
import Derived.WalkKit
namespace Go.Sy

/-- A list of pairs as a map. -/
def lk {α : Type} : List (Nat × α) → Nat → Option α
  | [], _ => none
  | (k, v) :: r, j => match Nat.beq k j with
    | true => some v
    | false => lk r j
theorem lk_cons {α : Type} (k : Nat) (v : α) (r : List (Nat × α)) (j : Nat) : lk ((k, v) :: r) j = if k = j then some v else lk r j := by
  simp only [lk]
  cases h : Nat.beq k j with
  | true => simp [Nat.eq_of_beq_eq_true h]
  | false => simp [Nat.ne_of_beq_eq_false h]

theorem lk_nil {α : Type} (j : Nat) : lk ([] : List (Nat × α)) j = none := rfl

def ids {α : Type} : List (Nat × α) → List Nat
  | [] => []
  | (k, _) :: r => k :: ids r

theorem lk_none {α : Type} {l : List (Nat × α)} {j : Nat} (h : j ∉ ids l) : lk l j = none := by
  induction l with
  | nil => rfl
  | cons p r ih =>
    obtain ⟨k, v⟩ := p
    simp only [ids, List.mem_cons, not_or] at h
    rw [lk_cons, if_neg (fun e => h.1 e.symm)]
    exact ih h.2

theorem lk_mem {α : Type} {l : List (Nat × α)} {j : Nat} {v : α} (h : lk l j = some v) : j ∈ ids l := by
  induction l with
  | nil => simp [lk] at h
  | cons p r ih =>
    obtain ⟨k, u⟩ := p
    rw [lk_cons] at h
    simp only [ids, List.mem_cons]
    split at h
    · rename_i e
      exact .inl e.symm
    · exact .inr (ih h)

section
variable {V A : Type}

/-- What is known: of slots, of atoms. -/
structure FS (V A : Type) where
  get : Nat → Option V
  atm : Nat → Option A

theorem FS.ext' {S T : FS V A} (h : ∀ t, S.get t = T.get t) (k : ∀ x, S.atm x = T.atm x) : S = T := by
  cases S; cases T
  simp only [FS.mk.injEq]
  exact ⟨funext h, funext k⟩

/-- An event: the slot that is written, its value, the atoms that are written; the slots and atoms that are read. -/
structure Ev (V A : Type) where
  dst : Option Nat
  v : V
  wa : List (Nat × A)
  rs : List Nat
  ra : List Nat

/-- Where an event looks and writes. -/
structure Fp where
  dst : Option Nat
  rs : List Nat
  ra : List Nat
  wa : List Nat
def Ev.fp (e : Ev V A) : Fp := ⟨e.dst, e.rs, e.ra, ids e.wa⟩
def memN (x : Nat) : List Nat → Bool
  | [] => false
  | y :: r => match Nat.beq y x with
    | true => true
    | false => memN x r
theorem memN_iff {x : Nat} : ∀ {l : List Nat}, memN x l = true ↔ x ∈ l
  | [] => by simp [memN]
  | y :: r => by
    simp only [memN, List.mem_cons]
    cases h : Nat.beq y x with
    | true => simp [(Nat.eq_of_beq_eq_true h).symm]
    | false =>
      have : y ≠ x := Nat.ne_of_beq_eq_false h
      simp only [memN_iff (l := r)]
      exact ⟨.inr, fun q => q.resolve_left (fun e => this e.symm)⟩
def meetN : List Nat → List Nat → Bool
  | [], _ => false
  | x :: r, l => memN x l || meetN r l
theorem meetN_of {x : Nat} : ∀ {l m : List Nat}, x ∈ l → x ∈ m → meetN l m = true
  | [], m, h, _ => by simp at h
  | y :: r, m, h, hm => by
    simp only [meetN, Bool.or_eq_true]
    rcases List.mem_cons.1 h with rfl | h
    · exact .inl (memN_iff.2 hm)
    · exact .inr (meetN_of h hm)
def clashF (e f : Fp) : Bool :=
  (match e.dst with | some d => memN d f.rs || (match f.dst with | some d' => Nat.beq d d' | none => false) | none => false) ||
  (match f.dst with | some d => memN d e.rs | none => false) || meetN e.wa f.ra || meetN e.wa f.wa || meetN f.wa e.ra

def updA (atm : Nat → Option A) (wa : List (Nat × A)) : Nat → Option A := fun x => match lk wa x with | some c => some c | none => atm x

def FS.app (S : FS V A) (e : Ev V A) : FS V A where
  get t := if e.dst = some t then some e.v else S.get t
  atm := updA S.atm e.wa

/-- Do two states agree where an event looks or writes? -/
def Ev.agree (e : Ev V A) (S T : FS V A) : Prop :=
  (∀ t ∈ e.rs, S.get t = T.get t) ∧ (∀ x ∈ e.ra, S.atm x = T.atm x) ∧ ∀ x ∈ ids e.wa, S.atm x = T.atm x

theorem Ev.agree_refl (e : Ev V A) (S : FS V A) : e.agree S S := ⟨fun _ _ => rfl, fun _ _ => rfl, fun _ _ => rfl⟩

/-- Those of the first n events that a predicate lets by, in the text's order. -/
def fsAt (S : FS V A) (ev : Nat → Ev V A) (p : Nat → Bool) : Nat → FS V A
  | 0 => S
  | n + 1 => if p n then (fsAt S ev p n).app (ev n) else fsAt S ev p n

def wrS (e : Ev V A) (t : Nat) : Prop := e.dst = some t
def wrA (e : Ev V A) (x : Nat) : Prop := x ∈ ids e.wa

theorem app_get_off {S : FS V A} {e : Ev V A} {t : Nat} (h : ¬ wrS e t) : (S.app e).get t = S.get t := by
  unfold wrS at h
  simp [FS.app, h]

theorem app_atm_off {S : FS V A} {e : Ev V A} {x : Nat} (h : ¬ wrA e x) : (S.app e).atm x = S.atm x := by
  simp [FS.app, updA, lk_none h]

theorem app_atm_on {S T : FS V A} {e : Ev V A} {x : Nat} (h : wrA e x) : (S.app e).atm x = (T.app e).atm x := by
  have : ∃ c, lk e.wa x = some c := by
    unfold wrA at h
    generalize e.wa = l at h
    induction l with
    | nil => simp [ids] at h
    | cons p r ih =>
      obtain ⟨k, v⟩ := p
      simp only [ids, List.mem_cons] at h
      rw [lk_cons]
      by_cases e : k = x
      · exact ⟨v, by rw [if_pos e]⟩
      · rw [if_neg e]
        exact ih (h.resolve_left (fun q => e q.symm))
  obtain ⟨c, hc⟩ := this
  simp [FS.app, updA, hc]

theorem app_get_on {S T : FS V A} {e : Ev V A} {t : Nat} (h : wrS e t) : (S.app e).get t = (T.app e).get t := by
  unfold wrS at h
  simp [FS.app, h]

theorem fsAt_get (S : FS V A) (ev : Nat → Ev V A) (p q : Nat → Bool) (t n : Nat) (h : ∀ k, k < n → wrS (ev k) t → p k = q k) :
    (fsAt S ev p n).get t = (fsAt S ev q n).get t := by
  induction n with
  | zero => rfl
  | succ n ih =>
    have ih' := ih (fun k hk => h k (by omega))
    simp only [fsAt]
    by_cases hw : wrS (ev n) t
    · rw [h n (by omega) hw]
      by_cases hq : q n
      · rw [if_pos hq, if_pos hq]; exact app_get_on hw
      · rw [if_neg hq, if_neg hq]; exact ih'
    · by_cases hp : p n <;> by_cases hq : q n <;> simp only [hp, hq, if_true, Bool.false_eq_true, if_false] <;> (try rw [app_get_off hw]) <;> (try rw [app_get_off hw]) <;> exact ih'

theorem fsAt_atm (S : FS V A) (ev : Nat → Ev V A) (p q : Nat → Bool) (t n : Nat) (h : ∀ k, k < n → wrA (ev k) t → p k = q k) :
    (fsAt S ev p n).atm t = (fsAt S ev q n).atm t := by
  induction n with
  | zero => rfl
  | succ n ih =>
    have ih' := ih (fun k hk => h k (by omega))
    simp only [fsAt]
    by_cases hw : wrA (ev n) t
    · rw [h n (by omega) hw]
      by_cases hq : q n
      · rw [if_pos hq, if_pos hq]; exact app_atm_on hw
      · rw [if_neg hq, if_neg hq]; exact ih'
    · by_cases hp : p n <;> by_cases hq : q n <;> simp only [hp, hq, if_true, Bool.false_eq_true, if_false] <;> (try rw [app_atm_off hw]) <;> (try rw [app_atm_off hw]) <;> exact ih'

theorem fsAt_first (S : FS V A) (ev : Nat → Ev V A) (i n : Nat) (h : i ≤ n) : fsAt S ev (fun k => decide (k < i)) n = fsAt S ev (fun _ => true) i := by
  induction n with
  | zero =>
    have : i = 0 := by omega
    subst this; rfl
  | succ n ih =>
    by_cases e : i = n + 1
    · subst e
      have : ∀ m, m ≤ n + 1 → fsAt S ev (fun k => decide (k < n + 1)) m = fsAt S ev (fun _ => true) m := by
        intro m hm
        induction m with
        | zero => rfl
        | succ m ihm => simp only [fsAt]; rw [ihm (by omega), if_pos (by simp; omega)]; simp
      exact this _ (Nat.le_refl _)
    · simp only [fsAt]
      rw [if_neg (by simp; omega)]
      exact ih (by omega)

/-- Two events that may not be turned about. -/
def clash (e f : Ev V A) : Bool := clashF e.fp f.fp

/-- Whatever two events clash are ordered by the region's edges. -/
def sorted (bef : Nat → Nat) (ev : Nat → Ev V A) (n : Nat) : Prop := ∀ k i, k < i → i < n → clash (ev k) (ev i) = true → (bef i).testBit k = true

end

section
variable {P : Program} {ops : Array Oper} {Q : Exit → Act → World → Prop}

/-- What stands ahead of an operation by edges, through others too. -/
def anc (md : Region.Mode) (ops : Array Oper) : Nat → Nat → Nat
  | 0, _ => 0
  | fuel + 1, i => match ops[i]? with
    | none => 0
    | some o => o.after.toList.foldl (fun s e => if Region.binds md e then s ||| 2 ^ e.on ||| anc md ops fuel e.on else s) 0

/-- Listed is closed under the edges. -/
def shutL (md : Region.Mode) (ops : Array Oper) (L : Array Bool) : Prop :=
  ∀ i, L.getD i false = true → ∀ o, ops[i]? = some o → ∀ e ∈ o.after.toList, Region.binds md e = true → L.getD e.on false = true

theorem foldl_bits (f : Edge → Nat) (g : Edge → Bool) (l : List Edge) : ∀ (s k : Nat), (l.foldl (fun s e => if g e then s ||| 2 ^ e.on ||| f e else s) s).testBit k = true →
    s.testBit k = true ∨ ∃ e ∈ l, g e = true ∧ (k = e.on ∨ (f e).testBit k = true) := by
  induction l with
  | nil => intro s k h; exact .inl h
  | cons e l ih =>
    intro s k h
    simp only [List.foldl_cons] at h
    rcases ih _ _ h with h' | ⟨e', he', hg, h'⟩
    · by_cases hg : g e = true
      · rw [if_pos hg, Nat.testBit_or, Nat.testBit_or, Nat.testBit_two_pow] at h'
        simp only [Bool.or_eq_true, decide_eq_true_eq] at h'
        rcases h' with (h' | h') | h'
        · exact .inl h'
        · exact .inr ⟨e, by simp, hg, .inl h'.symm⟩
        · exact .inr ⟨e, by simp, hg, .inr h'⟩
      · rw [if_neg hg] at h'
        exact .inl h'
    · exact .inr ⟨e', by simp [he'], hg, h'⟩

theorem anc_listed {md : Region.Mode} {L : Array Bool} (hs : shutL md ops L) : ∀ (fuel i k : Nat) (_ : ∀ o, ops[i]? = some o → ∀ e ∈ o.after.toList, Region.binds md e = true → L.getD e.on false = true),
    (anc md ops fuel i).testBit k = true → L.getD k false = true := by
  intro fuel
  induction fuel with
  | zero => intro i k _ h; simp [anc] at h
  | succ fuel ih =>
    intro i k hd h
    simp only [anc] at h
    cases ho : ops[i]? with
    | none => simp [ho] at h
    | some o =>
      simp only [ho] at h
      rcases foldl_bits (fun e => anc md ops fuel e.on) (fun e => Region.binds md e) o.after.toList 0 k h with h | ⟨e, he, hg, h⟩
      · simp at h
      · have hl := hd o ho e he hg
        rcases h with h | h
        · rw [h]; exact hl
        · exact ih e.on k (fun o' ho' => hs e.on hl o' ho') h

/-- All edges that bind lead back. -/
def backward (md : Region.Mode) (ops : Array Oper) : Prop := ∀ i o, ops[i]? = some o → ∀ e ∈ o.after.toList, Region.binds md e = true → e.on < i

theorem mem_ready {md : Region.Mode} {L : Array Bool} {i : Nat} : i ∈ Region.ready md ops L ↔ i < ops.size ∧ L.getD i true = false ∧ ∃ o, ops[i]? = some o ∧ ∀ e ∈ o.after.toList, Region.binds md e = true → L.getD e.on false = true := by
  unfold Region.ready
  simp only [List.mem_filter, List.mem_range, Bool.and_eq_true, Bool.not_eq_true']
  constructor
  · rintro ⟨h1, h2, h3⟩
    refine ⟨h1, h2, ?_⟩
    obtain ⟨o, ho⟩ : ∃ o, ops[i]? = some o := ⟨ops[i], Array.getElem?_eq_getElem h1⟩
    refine ⟨o, ho, fun e he hb => ?_⟩
    rw [ho] at h3
    simp only [Option.map_some, Option.getD_some, Array.all_eq_true'] at h3
    have := h3 e (Array.mem_toList_iff.1 he)
    simpa [hb] using this
  · rintro ⟨h1, h2, o, ho, h3⟩
    refine ⟨h1, h2, ?_⟩
    rw [ho]
    simp only [Option.map_some, Option.getD_some, Array.all_eq_true']
    intro e he
    by_cases hb : Region.binds md e = true
    · simpa [hb] using h3 e (Array.mem_toList_iff.2 he) hb
    · simp [hb]

/-- Nothing is ready: all is listed. -/
theorem ready_nil {md : Region.Mode} {L : Array Bool} (hb : backward md ops) (hL : L.size = ops.size) (h : Region.ready md ops L = []) : ∀ i, i < ops.size → L.getD i false = true := by
  intro i
  induction i using Nat.strongRecOn with
  | _ i ih =>
    intro hi
    apply Classical.byContradiction
    intro hn
    have hf : L.getD i true = false := by
      have : i < L.size := by omega
      simp only [Array.getD_eq_getD_getElem?, Array.getElem?_eq_getElem this, Option.getD_some] at hn ⊢
      simpa using hn
    obtain ⟨o, ho⟩ : ∃ o, ops[i]? = some o := ⟨ops[i], Array.getElem?_eq_getElem hi⟩
    have : i ∈ Region.ready md ops L := mem_ready.2 ⟨hi, hf, o, ho, fun e he hbd => ih e.on (hb i o ho e he hbd) (by have := hb i o ho e he hbd; omega)⟩
    rw [h] at this
    simp at this

end

section
variable {V A : Type} {P : Program} {ops : Array Oper} {Q : Exit → Act → World → Prop} (Sat : FS V A → Act → World → Prop) {S : FS V A} {ev : Nat → Ev V A}

/-- An operation is an event wherever what it looks at is as in the text's order. -/
def EvOK (P : Program) (ops : Array Oper) (Q : Exit → Act → World → Prop) (Sat : FS V A → Act → World → Prop) (S : FS V A) (i : Nat) (e : Ev V A) : Prop :=
  ∀ T a w, Sat T a w → e.agree T S → wpOp P ops Q i (fun a' w' => Sat (T.app e) a' w') a w

theorem clash_slot {e f : Ev V A} {t : Nat} (h : e.dst = some t) (h' : t ∈ f.rs ∨ f.dst = some t) : clash e f = true := by
  unfold clash clashF Ev.fp
  simp only [h]
  rcases h' with h' | h'
  · simp [memN_iff.2 h']
  · simp only [h']
    simp

theorem clash_slot' {e f : Ev V A} {t : Nat} (h : f.dst = some t) (h' : t ∈ e.rs) : clash e f = true := by
  unfold clash clashF Ev.fp
  simp only [h]
  simp [memN_iff.2 h']

theorem clash_atm {e f : Ev V A} {x : Nat} (h : x ∈ ids e.wa) (h' : x ∈ f.ra ∨ x ∈ ids f.wa) : clash e f = true := by
  unfold clash clashF Ev.fp
  rcases h' with h' | h'
  · simp [meetN_of h h']
  · simp [meetN_of h h']

theorem clash_atm' {e f : Ev V A} {x : Nat} (h : x ∈ ids f.wa) (h' : x ∈ e.ra) : clash e f = true := by
  unfold clash clashF Ev.fp
  simp [meetN_of h h']

theorem getD_set {L : Array Bool} {i : Nat} (hi : i < L.size) (k : Nat) : (L.setIfInBounds i true).getD k false = (decide (k = i) || L.getD k false) := by
  simp only [Array.getD_eq_getD_getElem?, Array.getElem?_setIfInBounds]
  by_cases h : i = k
  · subst h
    simp [hi]
  · rw [if_neg h]
    have : decide (k = i) = false := by simp; exact fun e => h e.symm
    simp [this]

theorem wpAny_events (hb : backward .any ops) (hev : ∀ i, i < ops.size → EvOK P ops Q Sat (fsAt S ev (fun _ => true) i) i (ev i))
    (hs : sorted (fun i => anc .any ops ops.size i) ev ops.size) (hfin : ∀ a w, Sat (fsAt S ev (fun _ => true) ops.size) a w → Q .normal a w) :
    ∀ (fuel : Nat) (L : Array Bool) (a : Act) (w : World), L.size = ops.size → shutL .any ops L → (∀ k, k < ops.size → L.getD k false = false → 0 < fuel) → (L.toList.filter (· = false)).length ≤ fuel →
      Sat (fsAt S ev (fun k => L.getD k false) ops.size) a w → wpAny P .any ops Q fuel L a w := by
  have done : ∀ (L : Array Bool) a w, (∀ i, i < ops.size → L.getD i false = true) → Sat (fsAt S ev (fun k => L.getD k false) ops.size) a w → Q .normal a w := by
    intro L a w hall h
    apply hfin
    have : fsAt S ev (fun k => L.getD k false) ops.size = fsAt S ev (fun _ => true) ops.size :=
      FS.ext' (fun t => fsAt_get _ _ _ _ _ _ (fun k hk _ => hall k hk)) (fun t => fsAt_atm _ _ _ _ _ _ (fun k hk _ => hall k hk))
    rwa [this] at h
  intro fuel
  induction fuel with
  | zero =>
    intro L a w hL hsh hpos hc h
    have hall : ∀ i, i < ops.size → L.getD i false = true := fun i hi => by
      apply Classical.byContradiction
      intro hn
      exact absurd (hpos i hi (by simpa using hn)) (by omega)
    refine ⟨?_, done L a w hall h⟩
    apply List.eq_nil_iff_forall_not_mem.2
    intro i hi
    obtain ⟨h1, h2, _⟩ := mem_ready.1 hi
    have := hall i h1
    have hlt : i < L.size := by omega
    simp only [Array.getD_eq_getD_getElem?, Array.getElem?_eq_getElem hlt, Option.getD_some] at this h2
    rw [this] at h2
    simp at h2
  | succ fuel ih =>
    intro L a w hL hsh hpos hc h
    refine ⟨fun hr => done L a w (ready_nil hb hL hr) h, ?_⟩
    intro i hi
    obtain ⟨hlt, hun, o, ho, hpre⟩ := mem_ready.1 hi
    have hltL : i < L.size := by omega
    have hunf : L.getD i false = false := by
      simp only [Array.getD_eq_getD_getElem?, Array.getElem?_eq_getElem hltL, Option.getD_some] at hun ⊢
      exact hun
    -- whatever event clashes with i is listed just if it stands ahead
    have hck : ∀ k, k < ops.size → k ≠ i → (clash (ev k) (ev i) = true ∨ clash (ev i) (ev k) = true) → (k < i → clash (ev k) (ev i) = true) → (i < k → clash (ev i) (ev k) = true) → L.getD k false = decide (k < i) := by
      intro k hk hne _ h1 h2
      by_cases hki : k < i
      · have hb' := hs k i hki hlt (h1 hki)
        rw [anc_listed hsh _ i k (fun o' ho' e he hbd => by rw [ho] at ho'; cases ho'; exact hpre e he hbd) hb']
        simp [hki]
      · have hik : i < k := by omega
        have hb' := hs i k hik hk (h2 hik)
        have : L.getD k false = false := by
          apply Classical.byContradiction
          intro hn
          have hk1 : L.getD k false = true := by simpa using hn
          have := anc_listed hsh _ k i (fun o' ho' => hsh k hk1 o' ho') hb'
          rw [hunf] at this
          simp at this
        rw [this]
        simp [hki]
    have hS : ∀ t, (t ∈ (ev i).rs ∨ (ev i).dst = some t) → (fsAt S ev (fun k => L.getD k false) ops.size).get t = (fsAt S ev (fun _ => true) i).get t := by
      intro t ht
      rw [← fsAt_first S ev i ops.size (by omega)]
      refine fsAt_get _ _ _ _ _ _ (fun k hk hw => ?_)
      by_cases hki : k = i
      · subst hki; rw [hunf]; simp
      · have c1 : clash (ev k) (ev i) = true := clash_slot hw ht
        have c2 : clash (ev i) (ev k) = true := by
          rcases ht with ht | ht
          · exact clash_slot' hw ht
          · exact clash_slot ht (.inr hw)
        exact hck k hk hki (.inl c1) (fun _ => c1) (fun _ => c2)
    have hA : ∀ x, (x ∈ (ev i).ra ∨ x ∈ ids (ev i).wa) → (fsAt S ev (fun k => L.getD k false) ops.size).atm x = (fsAt S ev (fun _ => true) i).atm x := by
      intro t ht
      rw [← fsAt_first S ev i ops.size (by omega)]
      refine fsAt_atm _ _ _ _ _ _ (fun k hk hw => ?_)
      by_cases hki : k = i
      · subst hki; rw [hunf]; simp
      · have c1 : clash (ev k) (ev i) = true := clash_atm hw ht
        have c2 : clash (ev i) (ev k) = true := by
          rcases ht with ht | ht
          · exact clash_atm' hw ht
          · exact clash_atm ht (.inr hw)
        exact hck k hk hki (.inl c1) (fun _ => c1) (fun _ => c2)
    have hagree : (ev i).agree (fsAt S ev (fun k => L.getD k false) ops.size) (fsAt S ev (fun _ => true) i) :=
      ⟨fun t ht => hS t (.inl ht), fun x hx => hA x (.inl hx), fun x hx => hA x (.inr hx)⟩
    refine wpOp_mono ?_ (hev i hlt _ a w h hagree)
    intro a' w' h'
    have hL' : (L.setIfInBounds i true).size = ops.size := by simp [hL]
    refine ih _ a' w' hL' ?_ ?_ ?_ ?_
    · intro j hj o' ho' e he hbd
      rw [getD_set hltL] at hj ⊢
      simp only [Bool.or_eq_true, decide_eq_true_eq] at hj ⊢
      rcases hj with hj | hj
      · subst hj
        rw [ho] at ho'
        cases ho'
        exact .inr (hpre e he hbd)
      · exact .inr (hsh j hj o' ho' e he hbd)
    · intro k hk hkf
      rw [getD_set hltL] at hkf
      simp only [Bool.or_eq_false_iff, decide_eq_false_iff_not] at hkf
      have hlen : 2 ≤ (L.toList.filter (· = false)).length := by
        have hk' : k < L.size := by omega
        have e1 : L.toList[i]'(by simpa using hltL) = false := by
          simpa [Array.getD_eq_getD_getElem?, Array.getElem?_eq_getElem hltL] using hunf
        have e2 : L.toList[k]'(by simpa using hk') = false := by
          simpa [Array.getD_eq_getD_getElem?, Array.getElem?_eq_getElem hk'] using hkf.2
        have two : ∀ (l : List Bool) (i k : Nat) (hi : i < l.length) (hk : k < l.length), k ≠ i → l[i] = false → l[k] = false → 2 ≤ (l.filter (· = false)).length := by
          intro l
          induction l with
          | nil => intro i k hi; simp at hi
          | cons b l ihl =>
            intro i k hi hk hne h1 h2
            have one : ∀ (l : List Bool) (j : Nat) (hj : j < l.length), l[j] = false → 1 ≤ (l.filter (· = false)).length := by
              intro l j hj h
              exact List.length_pos_of_mem (List.mem_filter.2 ⟨List.getElem_mem hj, by simp [h]⟩)
            cases i with
            | zero =>
              cases k with
              | zero => exact absurd rfl hne
              | succ k =>
                simp only [List.getElem_cons_zero] at h1
                simp only [List.getElem_cons_succ] at h2
                have := one l k (by simpa using hk) h2
                rw [List.filter_cons_of_pos (by simp [h1])]
                simp only [List.length_cons]
                omega
            | succ i =>
              cases k with
              | zero =>
                simp only [List.getElem_cons_zero] at h2
                simp only [List.getElem_cons_succ] at h1
                have := one l i (by simpa using hi) h1
                rw [List.filter_cons_of_pos (by simp [h2])]
                simp only [List.length_cons]
                omega
              | succ k =>
                simp only [List.getElem_cons_succ] at h1 h2
                have := ihl i k (by simpa using hi) (by simpa using hk) (by omega) h1 h2
                rw [List.filter_cons]
                split
                · simp only [List.length_cons]; omega
                · exact this
        exact two _ i k _ _ hkf.1 e1 e2
      omega
    · have e1 : L.toList[i]'(by simpa using hltL) = false := by
        simpa [Array.getD_eq_getD_getElem?, Array.getElem?_eq_getElem hltL] using hunf
      have less : ∀ (l : List Bool) (i : Nat) (hi : i < l.length), l[i] = false → ((l.set i true).filter (· = false)).length + 1 = (l.filter (· = false)).length := by
        intro l
        induction l with
        | nil => intro i hi; simp at hi
        | cons b l ihl =>
          intro i hi h1
          cases i with
          | zero =>
            simp only [List.getElem_cons_zero] at h1
            subst h1
            simp
          | succ i =>
            simp only [List.getElem_cons_succ] at h1
            have := ihl i (by simpa using hi) h1
            simp only [List.set_cons_succ, List.filter_cons]
            split
            · simp only [List.length_cons]; omega
            · exact this
      have := less L.toList i (by simpa using hltL) e1
      rw [Array.toList_setIfInBounds]
      omega
    · have : fsAt S ev (fun k => (L.setIfInBounds i true).getD k false) ops.size = (fsAt S ev (fun k => L.getD k false) ops.size).app (ev i) := by
        refine FS.ext' (fun t => ?_) (fun x => ?_)
        · by_cases hw : wrS (ev i) t
          · have e1 : (fsAt S ev (fun k => (L.setIfInBounds i true).getD k false) ops.size).get t = (fsAt S ev (fun k => decide (k < i + 1)) ops.size).get t := by
              refine fsAt_get _ _ _ _ _ _ (fun k hk hwk => ?_)
              rw [getD_set hltL]
              by_cases hki : k = i
              · subst hki; simp
              · have c1 : clash (ev k) (ev i) = true := clash_slot hwk (.inr hw)
                have c2 : clash (ev i) (ev k) = true := clash_slot hw (.inr hwk)
                rw [hck k hk hki (.inl c1) (fun _ => c1) (fun _ => c2)]
                simp [hki]
                omega
            rw [e1, fsAt_first S ev (i + 1) ops.size (by omega)]
            simp only [fsAt, if_true]
            exact app_get_on hw
          · rw [app_get_off hw]
            refine fsAt_get _ _ _ _ _ _ (fun k hk hwk => ?_)
            rw [getD_set hltL]
            have : k ≠ i := fun e => hw (e ▸ hwk)
            simp [this]
        · by_cases hw : wrA (ev i) x
          · have e1 : (fsAt S ev (fun k => (L.setIfInBounds i true).getD k false) ops.size).atm x = (fsAt S ev (fun k => decide (k < i + 1)) ops.size).atm x := by
              refine fsAt_atm _ _ _ _ _ _ (fun k hk hwk => ?_)
              rw [getD_set hltL]
              by_cases hki : k = i
              · subst hki; simp
              · have c1 : clash (ev k) (ev i) = true := clash_atm hwk (.inr hw)
                have c2 : clash (ev i) (ev k) = true := clash_atm hw (.inr hwk)
                rw [hck k hk hki (.inl c1) (fun _ => c1) (fun _ => c2)]
                simp [hki]
                omega
            rw [e1, fsAt_first S ev (i + 1) ops.size (by omega)]
            simp only [fsAt, if_true]
            exact app_atm_on hw
          · rw [app_atm_off hw]
            refine fsAt_atm _ _ _ _ _ _ (fun k hk hwk => ?_)
            rw [getD_set hltL]
            have : k ≠ i := fun e => hw (e ▸ hwk)
            simp [this]
      rw [this]
      exact h'

end
end Go.Sy
