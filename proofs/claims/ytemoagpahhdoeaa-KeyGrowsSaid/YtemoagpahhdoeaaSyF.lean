/- Functions run symbolically: out of a statement on numbers, what a call does. No condition. -/
import Derived.Test.YtemoagpahhdoeaaSyE
import Derived.Scope
namespace Go.Sy
set_option linter.unusedSimpArgs false
set_option linter.unusedVariables false
open Go.RowKit (Below)

/-! ### A state forgets -/
def SC.ids : SC → List Nat
  | .val _ => []
  | .ptr x _ => [x]
  | .sli x _ => [x]
  | .fn _ _ l => l.map (·.1)
  | .mp x => [x]
def csIds : List SC → List Nat
  | [] => []
  | c :: r => c.ids ++ csIds r
def SE.ids (u : SE) : List Nat := csIds u.cells
def esIds : List SE → List Nat
  | [] => []
  | u :: r => u.ids ++ esIds r
def SV.ids : SV → List Nat
  | .e u => u.ids
  | .tup l => esIds l
def Atom.ids : Atom → List Nat
  | .blk _ cs => csIds cs
  | _ => []
def tIds : List (Nat × SV) → List Nat
  | [] => []
  | (_, v) :: r => v.ids ++ tIds r
def hIds : List (Nat × Atom) → List Nat
  | [] => []
  | (_, v) :: r => v.ids ++ hIds r

def SC.ren (π : Nat → Nat) : SC → SC
  | .val v => .val v
  | .ptr x o => .ptr (π x) o
  | .sli x n => .sli (π x) n
  | .fn f l m => .fn f l (m.map fun p => (π p.1, p.2))
  | .mp x => .mp (π x)
def SE.ren (π : Nat → Nat) : SE → SE
  | .c x => .c (x.ren π)
  | .agg cs => .agg (cs.map (SC.ren π))
  | .arr xs => .arr xs
def SV.ren (π : Nat → Nat) : SV → SV
  | .e u => .e (u.ren π)
  | .tup l => .tup (l.map (SE.ren π))
def Atom.ren (π : Nat → Nat) : Atom → Atom
  | .blk e cs => .blk e (cs.map (SC.ren π))
  | .row e z n xs => .row e z n xs
  | .mpb k m => .mpb k m
  | .gone => .gone

def subB (l m : List Nat) : Bool := l.all fun x => m.contains x
def injB (π : Nat → Nat) : List Nat → Bool
  | [] => true
  | x :: r => r.all (fun y => x == y || !(π x == π y)) && injB π r

def allT (s : SS) (π : Nat → Nat) : List (Nat × SV) → Prop
  | [] => True
  | (k, v) :: r => lk s.t k = some (v.ren π) ∧ allT s π r
def allH (s : SS) (π : Nat → Nat) : List (Nat × Atom) → Prop
  | [] => True
  | (k, v) :: r => lk s.h (π k) = some (v.ren π) ∧ allH s π r

/-- What s tells is at least what s' tells (its blocks renamed). -/
def Le (rt : List Nat) (s s' : SS) : Prop := ∃ π : Nat → Nat, rt.all (fun x => π x == x) = true ∧ subB rt (ids s'.h) = true ∧ allT s π s'.t ∧ allH s π s'.h ∧ subB (tIds s'.t) (ids s'.h) = true ∧ subB (hIds s'.h) (ids s'.h) = true ∧ injB π (ids s'.h) = true

theorem allT_lk {s : SS} {π : Nat → Nat} : ∀ {l : List (Nat × SV)}, allT s π l → ∀ k v, lk l k = some v → lk s.t k = some (v.ren π)
  | [], _, k, v, h => by simp [lk] at h
  | (j, u) :: r, h, k, v, hk => by
    rw [lk_cons] at hk
    split at hk
    · rename_i e; subst e; cases hk; exact h.1
    · exact allT_lk h.2 k v hk
theorem allH_lk {s : SS} {π : Nat → Nat} : ∀ {l : List (Nat × Atom)}, allH s π l → ∀ k v, lk l k = some v → lk s.h (π k) = some (v.ren π)
  | [], _, k, v, h => by simp [lk] at h
  | (j, u) :: r, h, k, v, hk => by
    rw [lk_cons] at hk
    split at hk
    · rename_i e; subst e; cases hk; exact h.1
    · exact allH_lk h.2 k v hk
theorem allH_mem {s : SS} {π : Nat → Nat} : ∀ {l : List (Nat × Atom)}, allH s π l → ∀ k ∈ ids l, ∃ v, lk l k = some v
  | [], _, k, h => by simp [ids] at h
  | (j, u) :: r, h, k, hk => by
    rw [lk_cons]
    by_cases e : j = k
    · exact ⟨u, by simp [e]⟩
    · simp only [ids, List.mem_cons] at hk
      obtain ⟨v, hv⟩ := allH_mem h.2 k (hk.resolve_left (fun q => e q.symm))
      exact ⟨v, by simp [e, hv]⟩
theorem lk_tIds : ∀ {l : List (Nat × SV)} {k : Nat} {v : SV}, lk l k = some v → ∀ x ∈ v.ids, x ∈ tIds l
  | [], k, v, h, x, _ => by simp [lk] at h
  | (j, u) :: r, k, v, h, x, hx => by
    rw [lk_cons] at h
    simp only [tIds, List.mem_append]
    split at h
    · cases h; exact .inl hx
    · exact .inr (lk_tIds h x hx)
theorem lk_hIds : ∀ {l : List (Nat × Atom)} {k : Nat} {v : Atom}, lk l k = some v → ∀ x ∈ v.ids, x ∈ hIds l
  | [], k, v, h, x, _ => by simp [lk] at h
  | (j, u) :: r, k, v, h, x, hx => by
    rw [lk_cons] at h
    simp only [hIds, List.mem_append]
    split at h
    · cases h; exact .inl hx
    · exact .inr (lk_hIds h x hx)
theorem injB_ok {π : Nat → Nat} : ∀ {l : List Nat}, injB π l = true → ∀ x ∈ l, ∀ y ∈ l, π x = π y → x = y
  | [], _, x, hx, _, _, _ => by simp at hx
  | z :: r, h, x, hx, y, hy, he => by
    simp only [injB, Bool.and_eq_true] at h
    have h1 := List.all_eq_true.1 h.1
    rcases List.mem_cons.1 hx with hx1 | hx1
    · rcases List.mem_cons.1 hy with hy1 | hy1
      · exact hx1.trans hy1.symm
      · have := h1 y hy1
        rw [← hx1] at this
        simp [he] at this
        exact this
    · rcases List.mem_cons.1 hy with hy1 | hy1
      · have := h1 x hx1
        rw [← hy1] at this
        simp [he] at this
        exact this.symm
      · exact injB_ok h.2 x hx1 y hy1 he

theorem csIds_mem {c : SC} {x : Nat} : ∀ {cs : List SC}, c ∈ cs → x ∈ c.ids → x ∈ csIds cs
  | [], h, _ => by simp at h
  | d :: r, h, hx => by
    simp only [csIds, List.mem_append]
    rcases List.mem_cons.1 h with rfl | h
    · exact .inl hx
    · exact .inr (csIds_mem h hx)
theorem esIds_mem {u : SE} {x : Nat} : ∀ {l : List SE}, u ∈ l → x ∈ u.ids → x ∈ esIds l
  | [], h, _ => by simp at h
  | d :: r, h, hx => by
    simp only [esIds, List.mem_append]
    rcases List.mem_cons.1 h with rfl | h
    · exact .inl hx
    · exact .inr (esIds_mem h hx)

theorem SC.ren_den {ρ ρ' : Env} {π : Nat → Nat} {c : SC} (h : ∀ x ∈ c.ids, ρ' x = ρ (π x)) (hc : (c.ren π).ok ρ) : (c.ren π).den ρ = c.den ρ' ∧ c.ok ρ' := by
  cases c with
  | val v => exact ⟨rfl, trivial⟩
  | ptr x o =>
    have := h x (by simp [SC.ids])
    simp only [SC.ren, SC.ok] at hc
    simp only [SC.ren, SC.den, adr, SC.ok, this]
    exact ⟨trivial, hc⟩
  | sli x n =>
    have := h x (by simp [SC.ids])
    simp only [SC.ren, SC.ok] at hc
    simp only [SC.ren, SC.den, adr, SC.ok, this]
    exact ⟨trivial, hc⟩
  | mp x =>
    have := h x (by simp [SC.ids])
    simp only [SC.ren, SC.ok] at hc
    simp only [SC.ren, SC.den, SC.ok, this]
    exact ⟨trivial, hc⟩
  | fn f l m =>
    simp only [SC.ren, SC.ok] at hc
    simp only [SC.ren, SC.den, SC.ok]
    have hm : ∀ p ∈ m, ρ' p.1 = ρ (π p.1) := fun p hp => h p.1 (by simp only [SC.ids]; exact List.mem_map.2 ⟨p, hp, rfl⟩)
    constructor
    · congr 1
      congr 1
      rw [List.map_map]
      exact List.map_congr_left (fun p hp => by simp only [Function.comp, adr, hm p hp])
    · intro p hp
      rw [hm p hp]
      exact hc _ (List.mem_map.2 ⟨p, hp, rfl⟩)
theorem cs_ren_den {ρ ρ' : Env} {π : Nat → Nat} {cs : List SC} (h : ∀ x ∈ csIds cs, ρ' x = ρ (π x)) (hc : ∀ c ∈ cs.map (SC.ren π), c.ok ρ) : (cs.map (SC.ren π)).map (SC.den ρ) = cs.map (SC.den ρ') ∧ ∀ c ∈ cs, c.ok ρ' := by
  refine ⟨?_, fun c hm => (SC.ren_den (fun x hx => h x (csIds_mem hm hx)) (hc _ (List.mem_map.2 ⟨c, hm, rfl⟩))).2⟩
  rw [List.map_map]
  exact List.map_congr_left (fun c hm => (SC.ren_den (fun x hx => h x (csIds_mem hm hx)) (hc _ (List.mem_map.2 ⟨c, hm, rfl⟩))).1)
theorem SE.ren_cells (π : Nat → Nat) (u : SE) : (u.ren π).cells = u.cells.map (SC.ren π) := by
  cases u with
  | arr xs => simp [SE.ren, SE.cells, SC.ren]
  | _ => rfl
theorem SE.ren_den {ρ ρ' : Env} {π : Nat → Nat} {u : SE} (h : ∀ x ∈ u.ids, ρ' x = ρ (π x)) (hc : (u.ren π).ok ρ) : (u.ren π).den ρ = u.den ρ' ∧ u.ok ρ' := by
  unfold SE.ok at hc
  rw [SE.ren_cells] at hc
  obtain ⟨p1, p2⟩ := cs_ren_den (cs := u.cells) h hc
  refine ⟨?_, p2⟩
  cases u with
  | c x => simp only [SE.cells, List.map_cons, List.map_nil, List.cons.injEq, and_true] at p1; exact p1
  | agg cs => simp only [SE.cells] at p1; simp only [SE.ren, SE.den]; rw [p1]
  | arr xs => rfl
theorem SV.ren_den {ρ ρ' : Env} {π : Nat → Nat} {v : SV} (h : ∀ x ∈ v.ids, ρ' x = ρ (π x)) (hc : (v.ren π).ok ρ) : (v.ren π).den ρ = v.den ρ' ∧ v.ok ρ' := by
  cases v with
  | e u => exact SE.ren_den h hc
  | tup l =>
    simp only [SV.ren, SV.ok, SV.den] at hc ⊢
    have := fun u (hu : u ∈ l) => SE.ren_den (π := π) (u := u) (fun x hx => h x (esIds_mem hu hx)) (hc _ (List.mem_map.2 ⟨u, hu, rfl⟩))
    refine ⟨?_, fun u hu => (this u hu).2⟩
    have e : l.map (SE.den ρ ∘ SE.ren π) = l.map (SE.den ρ') := List.map_congr_left (fun u hu => (this u hu).1)
    rw [List.map_map, e]

theorem sat_le {C : Cx} {rt : List Nat} (hrt : C.roots.map (·.1) = rt) {s s' : SS} (h : Le rt s s') {a : Act} {w : World} (hs : Sat C s.fn a w) : Sat C s'.fn a w := by
  obtain ⟨π, hr1, hr2, h1, h2, h3, h4, h5⟩ := h
  obtain ⟨k1, k2, k3, ρ, hh, k4, k5, k6⟩ := hs
  have hin : ∀ x, x ∈ ids s'.h → (fun x => if x ∈ ids s'.h then ρ (π x) else none) x = ρ (π x) := fun x hx => by simp [hx]
  refine ⟨k1, k2, k3, fun x => if x ∈ ids s'.h then ρ (π x) else none, fun x => if x ∈ ids s'.h then hh (π x) else fun _ => none, ⟨?_, ?_, ?_, ?_, k4.fr⟩, ?_, ?_⟩
  · intro x hx
    have : x ∉ ids s'.h := fun hm => by
      obtain ⟨v, hv⟩ := allH_mem h2 x hm
      rw [show s'.fn.atm x = lk s'.h x from rfl, hv] at hx
      cases hx
    simp [this]
  · intro x A hx
    have hx' : lk s'.h x = some A := hx
    have hm := lk_mem hx'
    have hA := k4.sat (π x) _ (allH_lk h2 x A hx')
    simp only [hm, if_true]
    cases A with
    | gone => trivial
    | row e z n xs =>
      obtain ⟨g, c, cur, q1, q2, q3⟩ := hA
      exact ⟨g, c, cur, by simp only [hm, if_true]; exact q1, q2, q3⟩
    | mpb k m =>
      obtain ⟨g, c, es, cl, q1, q2, q3⟩ := hA
      exact ⟨g, c, es, cl, by simp only [hm, if_true]; exact q1, q2, q3⟩
    | blk e cs =>
      obtain ⟨g, c, q1, q2, q3, q4⟩ := hA
      have hids : ∀ y ∈ csIds cs, (fun x => if x ∈ ids s'.h then ρ (π x) else none) y = ρ (π y) := fun y hy => by
        have := List.all_eq_true.1 h4 y (lk_hIds hx' y hy)
        exact hin y (by simpa using this)
      obtain ⟨p1, p2⟩ := cs_ren_den hids q3
      refine ⟨g, c, by simp only [hm, if_true]; exact q1, by rw [← p1]; exact q2, p2, ?_⟩
      refine allOne_of (fun c hc => ?_)
      have := allOne_mem q4 (List.mem_map.2 ⟨c, hc, rfl⟩ : c.ren π ∈ cs.map (SC.ren π))
      cases c <;> first | exact this | rfl
  · intro x y k o hx hne
    by_cases hm : x ∈ ids s'.h
    · simp only [hm, if_true] at hx
      by_cases hm' : y ∈ ids s'.h
      · simp only [hm', if_true]
        exact k4.apart _ _ k o hx (fun q => hne (injB_ok h5 x hm y hm' q))
      · simp [hm']
    · simp [hm] at hx
  · intro x k o hx
    by_cases hm : x ∈ ids s'.h
    · simp only [hm, if_true] at hx
      exact k4.own _ k o hx
    · simp [hm] at hx
  · intro t v ht
    have ht' : lk s'.t t = some v := ht
    obtain ⟨p1, p2⟩ := k5 t _ (allT_lk h1 t v ht')
    have hids : ∀ y ∈ v.ids, (fun x => if x ∈ ids s'.h then ρ (π x) else none) y = ρ (π y) := fun y hy => by
      have := List.all_eq_true.1 h3 y (lk_tIds ht' y hy)
      exact hin y (by simpa using this)
    obtain ⟨q1, q2⟩ := SV.ren_den hids p2
    exact ⟨p1.trans q1, q2⟩
  · intro p hp
    have hpm : p.1 ∈ rt := by rw [← hrt]; exact List.mem_map.2 ⟨p, hp, rfl⟩
    have e1 : π p.1 = p.1 := by have := List.all_eq_true.1 hr1 _ hpm; simpa using this
    have e2 : p.1 ∈ ids s'.h := by have := List.all_eq_true.1 hr2 _ hpm; simpa using this
    simp only [e2, if_true, e1]
    exact k6 p hp

/-! ### Code -/
inductive Ex where
  | normal
  | exit (id : Nat)
  | ret
def Ex.to : Ex → Exit
  | .normal => .normal
  | .exit id => .exit id
  | .ret => .ret

def SS.clr (s : SS) : SS := { s with kn := [] }
theorem clr_KN (s : SS) : KN s.clr := fun t b h => by simp [SS.clr, lk] at h

def LoopVC (rt : List Nat) (run : SS → (Ex → SS → Prop) → Prop) (s : SS) (K : Ex → SS → Prop) : Prop :=
  ∃ (ι : Type) (S : ι → SS) (m : ι → Nat) (i0 : ι), Le rt s (S i0).clr ∧ ∀ i, run (S i).clr fun e s' => match e with
    | .normal => ∃ j, Le rt s' (S j).clr ∧ m j < m i
    | .exit id => K (.exit id) s'
    | .ret => K .ret s'

noncomputable def vc (E : En) (c : Code) : SS → (Ex → SS → Prop) → Prop :=
  Code.rec (motive := fun _ => SS → (Ex → SS → Prop) → Prop)
    (fun s K => K .normal s)
    (fun _ ops draw s K => runOps E ops draw ops.toList s [] fun acc s' => drawn ops acc draw (K .normal s'))
    (fun _ _ a b s K => a s fun e s' => match e with
      | .normal => b s' K
      | .exit id => K (.exit id) s'
      | .ret => K .ret s')
    (fun c _ _ x y s K => splitAt s c fun s => match s.kno c with
      | some true => x s K
      | some false => y s K
      | none => False)
    (fun id _ c s K => c s fun e s' => match e with
      | .exit i => match i == id with
        | true => K .normal s'
        | false => K (.exit i) s'
      | .normal => K .normal s'
      | .ret => K .ret s')
    (fun _ body s K => LoopVC E.rt body s K)
    (fun _ _ _ _ _ _ _ _ => False)
    (fun id s K => K (.exit id) s)
    (fun _ ih s K => ih s K)
    (fun _ s K => K .normal s)
    (fun _ _ _ => False)
    (fun s K => K .ret s)
    (fun _ _ _ => False) c

theorem loop_ghost {P : Program} {c : Code} {ι : Type} (J : ι → Act → World → Prop) (m : ι → Nat) {Q : Exit → Act → World → Prop} (round : ∀ i a w, J i a w → c.wp P (Exit.then (fun a' w' => ∃ j, J j a' w' ∧ m j < m i) Q) a w) :
    ∀ (i : ι) (a : Act) (w : World), J i a w → (Code.loop c).wp P Q a w := by
  intro i a w h b k cs
  have key : ∀ n i a w, m i = n → J i a w → ∃ e a' w', Q e a' w' ∧ Arrives P (lone (b.at a (.code c :: .inLoop c :: k)) cs w) b k cs e a' w' := by
    intro n
    induction n using Nat.strongRecOn with
    | _ n ih =>
      intro i a w hn hI
      obtain ⟨e, a₁, w₁, hq, harr⟩ := round i a w hI b (.inLoop c :: k) cs
      cases e with
      | normal =>
        obtain ⟨j, hI₁, hlt⟩ := hq
        obtain ⟨e₂, a₂, w₂, hq₂, harr₂⟩ := ih (m j) (hn ▸ hlt) j a₁ w₁ rfl hI₁
        exact ⟨e₂, a₂, w₂, hq₂, .of_steps (Steps.trans harr (.one step_inLoop)) harr₂⟩
      | exit id => exact ⟨_, a₁, w₁, hq, .pass (x := .inLoop c) rfl (fun _ _ => .inl (by simp)) harr⟩
      | goto l => exact ⟨_, a₁, w₁, hq, .pass (x := .inLoop c) rfl (fun _ _ => .inl (by simp)) harr⟩
      | ret => exact ⟨_, a₁, w₁, hq, .pass (x := .inLoop c) rfl (fun _ _ => .inl (by simp)) harr⟩
      | panic ch => exact ⟨_, a₁, w₁, hq, .pass (x := .inLoop c) rfl (fun _ _ => .inl (by simp)) harr⟩
      | outgrown => exact ⟨_, a₁, w₁, hq, .pass (x := .inLoop c) rfl (fun _ _ => .inl (by simp)) harr⟩
  obtain ⟨e, a', w', hq, harr⟩ := key _ i a w rfl h
  exact ⟨e, a', w', hq, .of_steps (.one step_loop) harr⟩

theorem vc_ok {C : Cx} {E : En} (hm : C.P.follows .mixedOrders = true) (hF : C.F = E.F) (hn : C.n = E.n) (hT : TOK C.P E.T) (hsp : SpecsOK C.P E.sp) (hrt : C.roots.map (·.1) = E.rt) : ∀ (c : Code) (s : SS) (K : Ex → SS → Prop) (Q : Exit → Act → World → Prop), vc E c s K → KN s →
    (∀ e s', KN s' → K e s' → ∀ a w, Sat C s'.fn a w → Q e.to a w) → ∀ a w, Sat C s.fn a w → c.wp C.P Q a w := by
  intro c
  induction c with
  | skip => intro s K Q h hk hQ a w hs; exact wp_skip (hQ .normal s hk h a w hs)
  | exit id => intro s K Q h hk hQ a w hs; exact wp_exit (hQ (.exit id) s hk h a w hs)
  | ret => intro s K Q h hk hQ a w hs; exact wp_ret (hQ .ret s hk h a w hs)
  | region id ops draw =>
    intro s K Q h hk hQ a w hs
    obtain ⟨s', k1, k2, k3⟩ := region_ok (C := C) (id := id) (draw := draw) (K := fun s' => K .normal s') hm hF hn hT hsp hk h
    refine wp_mono (k3 a w hs) ?_
    rintro e a' w' ⟨rfl, hs'⟩
    exact hQ .normal s' k1 k2 a' w' hs'
  | seq x y ihx ihy =>
    intro s K Q h hk hQ a w hs
    refine wp_seq (ihx s _ _ (show vc E x s _ from h) hk ?_ a w hs)
    intro e s' hk' hK' a' w' hs'
    cases e with
    | normal => exact ihy s' K Q hK' hk' hQ a' w' hs'
    | exit id => exact hQ (.exit id) s' hk' hK' a' w' hs'
    | ret => exact hQ .ret s' hk' hK' a' w' hs'
  | cond c x y ihx ihy =>
    intro s K Q h hk hQ a w hs
    obtain ⟨s1, hf1, hk1, h⟩ := split_at hk (show splitAt s c (fun s => match s.kno c with | some true => vc E x s K | some false => vc E y s K | none => False) from h)
    rw [← hf1] at hs
    have hval : ∀ b, s1.kno c = some b → a.eval c = .bool b := fun b hb => by
      obtain ⟨_, _, _, ρ, hh, _, h5, _⟩ := hs
      exact (opd_den h5 (opd_kn hk1 (show s1.opd c = some (sval (.bool b)) by unfold SS.opd; rw [hb])) (fun _ _ => rfl)).1
    split at h
    · rename_i hb
      exact wp_cond_true (hval _ hb) (ihx s1 K Q h hk1 hQ a w hs)
    · rename_i hb
      exact wp_cond_false (hval _ hb) (ihy s1 K Q h hk1 hQ a w hs)
    · exact h.elim
  | block id c ih =>
    intro s K Q h hk hQ a w hs
    refine wp_block (ih s _ _ (show vc E c s (fun e s' => match e with | .exit i => (match i == id with | true => K .normal s' | false => K (.exit i) s') | .normal => K .normal s' | .ret => K .ret s') from h) hk ?_ a w hs)
    intro e s' hk' hK' a' w' hs'
    cases e with
    | normal => exact hQ .normal s' hk' hK' a' w' hs'
    | ret => exact hQ .ret s' hk' hK' a' w' hs'
    | exit i =>
      simp only at hK'
      simp only [Ex.to, Exit.inBlock]
      split at hK'
      · rename_i hi
        rw [if_pos (by simpa using hi)]
        exact hQ .normal s' hk' hK' a' w' hs'
      · rename_i hi
        rw [if_neg (by simpa using hi)]
        exact hQ (.exit i) s' hk' hK' a' w' hs'
  | loop c ih =>
    intro s K Q h hk hQ a w hs
    obtain ⟨ι, S, m, i0, h0, hr⟩ := (show LoopVC E.rt (vc E c) s K from h)
    refine loop_ghost (fun i a w => Sat C (S i).clr.fn a w) m (fun i a w hs => ?_) i0 a w (sat_le hrt h0 hs)
    refine ih (S i).clr _ _ (hr i) (clr_KN _) ?_ a w hs
    intro e s' hk' hK' a' w' hs'
    cases e with
    | normal =>
      obtain ⟨j, hj, hm⟩ := hK'
      exact ⟨j, sat_le hrt hj hs', hm⟩
    | exit id => exact hQ (.exit id) s' hk' hK' a' w' hs'
    | ret => exact hQ .ret s' hk' hK' a' w' hs'
  | label l => intro s K Q h hk hQ a w hs; exact wp_label (hQ .normal s hk h a w hs)
  | scope c ih =>
    intro s K Q h hk hQ a w hs
    refine wp_scope_straight (ih s K _ h hk ?_ a w hs)
    intro e s' hk' hK' a' w' hs'
    cases e <;> exact hQ _ s' hk' hK' a' w' hs'
  | _ => intro s K Q h; exact h.elim

/-! ### Functions -/
def sLoadP (T : TT) (s : SS) (t : TypeId) (a : Operand) : Option SE :=
  match s.opd a with
  | some (.e (.c (.ptr x off))) => match lk s.h x, T t with
    | some (.blk _ cs), some i => if i.agg then (if off + i.size ≤ cs.length then some (.agg ((cs.drop off).take i.size)) else none)
      else (match cs[off]? with | some c => some (.c c) | none => none)
    | some (.row _ sz n xs), some i => match i.big with
      | true => if off = 0 ∧ sz = 1 ∧ i.size = n ∧ i.agg = true then some (.arr xs) else none
      | false => none
    | _, _ => none
  | _ => none
def sres (T : TT) (F : Hp) (s : SS) : List ResultVar → Option (List SE)
  | [] => some []
  | .tmp t :: r => match s.opd (.tmp t), sres T F s r with
    | some (.e u), some l => some (u :: l)
    | _, _ => none
  | .cell t ty :: r => match sLoadP T s ty (.tmp t), sres T F s r with
    | some u, some l => some (u :: l)
    | _, _ => none
def resV : List SE → SV
  | [u] => .e u
  | l => .tup l

def rv (tmps : Array Value) : ResultVar → Sem Value
  | .tmp t => pure (tmps.getD t undef)
  | .cell x ty => do loadVar ty (← asAddr (tmps.getD x undef))
theorem results_rv (fn : Func) (tmps : Array Value) : results fn tmps = (do let vs ← fn.results.mapM (rv tmps); pure (if h : vs.size = 1 then vs[0] else .tuple vs)) := by
  unfold results
  congr 1

theorem sres_run {C : Cx} {T : TT} (hT : TOK C.P T) {s : SS} (hk : KN s) {a : Act} {w : World} {ρ : Env} {h : Nat → Hp} (hs : HSat C.F s.fn.atm ρ h w) (h5 : Slots s.fn a ρ) : ∀ (l : List ResultVar) (us : List SE), sres T C.F s l = some us →
    (l.mapM (rv a.tmps)).run C.P w = .ok (us.map (SE.den ρ)) w ∧ ∀ u ∈ us, u.ok ρ
  | [], us, hu => by cases hu; simp
  | .tmp t :: r, us, hu => by
    simp only [sres] at hu
    split at hu
    · rename_i u l h1 h2
      cases hu
      obtain ⟨p1, p2⟩ := opd_den h5 (opd_kn hk h1) (fun _ _ => rfl)
      obtain ⟨q1, q2⟩ := sres_run hT hk hs h5 r l h2
      have p1' : a.tmps.getD t undef = u.den ρ := p1
      refine ⟨?_, fun v hv => by rcases List.mem_cons.1 hv with rfl | hv; exact p2; exact q2 v hv⟩
      simp only [List.mapM_cons, rv, Sem.run_bind, Sem.run_pure, Result.andThen_ok, q1, p1', List.map_cons]
    · cases hu
  | .cell x ty :: r, us, hu => by
    simp only [sres] at hu
    split at hu
    · rename_i u l h1 h2
      cases hu
      obtain ⟨q1, q2⟩ := sres_run hT hk hs h5 r l h2
      have hld : (loadVar ty ⟨0, 0, none⟩).run C.P w = (loadVar ty ⟨0, 0, none⟩).run C.P w := rfl
      have key : (rv a.tmps (.cell x ty)).run C.P w = .ok (u.den ρ) w ∧ u.ok ρ := by
        unfold sLoadP at h1
        split at h1
        · rename_i x' off hp
          obtain ⟨p1, p2⟩ := opd_den h5 (opd_kn hk hp) (fun _ _ => rfl)
          have p1' : a.tmps.getD x undef = .pointer (some ⟨((ρ x').getD (0, 0)).1, off, none⟩) := p1
          split at h1
          · rename_i te cs i hx ht
            have ht' := hT _ _ ht
            obtain ⟨r1, r2, r3, r4, r5⟩ := atom_blk hs (show s.fn.atm x' = some (.blk te cs) from hx)
            have hcell : ∀ j, w.cell? ⟨((ρ x').getD (0, 0)).1, j, none⟩ = (cs.map (SC.den ρ))[j]? := fun j => by rw [cell_of_row w _ j _ _ _ r1]; simp
            split at h1
            · rename_i hagg
              split at h1
              · rename_i hle
                cases h1
                refine ⟨?_, fun c hc => r2 c (List.mem_of_mem_drop (List.mem_of_mem_take hc))⟩
                have hl : (((cs.drop off).take i.size).map (SC.den ρ)).length = i.size := by simp; omega
                have := run_loadCells_list (P := C.P) w ⟨((ρ x').getD (0, 0)).1, off, none⟩ (((cs.drop off).take i.size).map (SC.den ρ)) (fun j v hj => by
                  rw [addr_add, hcell]
                  rw [drop_take_map, List.getElem?_take] at hj
                  split at hj
                  · rw [List.getElem?_drop] at hj; exact hj
                  · cases hj)
                rw [hl] at this
                simp [rv, p1', asAddr, loadVar, run_isAgg ht', hagg, run_size ht', this, SE.den]
              · cases h1
            · rename_i hagg
              split at h1
              · rename_i c hc
                cases h1
                refine ⟨?_, fun c' hc' => by simp [SE.cells] at hc'; subst hc'; exact r2 _ (List.mem_of_getElem? hc)⟩
                have := hcell off
                rw [List.getElem?_map, hc] at this
                simp [rv, p1', asAddr, loadVar, run_isAgg ht', hagg, this, SE.den]
              · cases h1
          · rename_i te sz n xs i hx ht
            have ht' := hT _ _ ht
            split at h1
            · split at h1
              · rename_i hq
                obtain ⟨rfl, rfl, hq2, hq3⟩ := hq
                cases h1
                obtain ⟨g, c, cur, r1, r2, r2', r3, r4, r5, r6, r7, r8, r9⟩ := atom_row hs (show s.fn.atm x' = some (.row te 1 n xs) from hx)
                have p1'' : a.tmps.getD x undef = .pointer (some ⟨g, 0, none⟩) := by rw [p1', r1]; rfl
                have := run_loadCells_list (P := C.P) w ⟨g, 0, none⟩ xs (fun j v hj => by rw [addr_add, Nat.zero_add]; exact r9 j v hj)
                rw [show xs.length = i.size by omega] at this
                refine ⟨?_, fun c hc => by simp [SE.cells] at hc; obtain ⟨v, _, rfl⟩ := hc; trivial⟩
                simp [rv, p1'', asAddr, loadVar, run_isAgg ht', hq3, run_size ht', this, SE.den]
              · cases h1
            · cases h1
          · cases h1
        · cases h1
      refine ⟨?_, fun v hv => by rcases List.mem_cons.1 hv with rfl | hv; exact key.2; exact q2 v hv⟩
      rw [List.mapM_cons, Sem.run_bind, key.1]
      simp only [Result.andThen_ok, Sem.run_bind, q1, Sem.run_pure, List.map_cons]
    · cases hu

theorem results_run {C : Cx} {T : TT} (hT : TOK C.P T) {s : SS} (hk : KN s) {fn : Func} {a : Act} {w : World} {ρ : Env} {h : Nat → Hp} (hs : HSat C.F s.fn.atm ρ h w) (h5 : Slots s.fn a ρ) {us : List SE} (hu : sres T C.F s fn.results.toList = some us) :
    (results fn a.tmps).run C.P w = .ok ((resV us).den ρ) w ∧ (resV us).ok ρ := by
  obtain ⟨p1, p2⟩ := sres_run hT hk hs h5 _ _ hu
  constructor
  · rw [results_rv, Sem.run_bind, Array.mapM_eq_mapM_toList, Sem.run_map, p1]
    simp only [Result.andThen_ok, Sem.run_pure]
    cases us with
    | nil => rfl
    | cons u l =>
      cases l with
      | nil => rfl
      | cons v l => simp [resV, SV.den]
  · cases us with
    | nil => intro x hx; simp at hx
    | cons u l =>
      cases l with
      | nil => exact p2 u (by simp)
      | cons v l => exact fun x hx => p2 x hx

/-- Two values, told as equations of what is in them. -/
def eqC : SC → SC → Prop → Prop
  | .val (.int k a), .val (.int k' b), q => k = k' ∧ a = b ∧ q
  | .val (.bool a), .val (.bool b), q => a = b ∧ q
  | .val (.string a), .val (.string b), q => a = b ∧ q
  | a, b, q => a = b ∧ q
def eqCs : List SC → List SC → Prop → Prop
  | [], [], q => q
  | a :: r, b :: r', q => eqC a b (eqCs r r' q)
  | _, _, _ => False
def eqE : SE → SE → Prop → Prop
  | .c a, .c b, q => eqC a b q
  | .agg l, .agg l', q => eqCs l l' q
  | .arr l, .arr l', q => l = l' ∧ q
  | _, _, _ => False
def eqEs : List SE → List SE → Prop → Prop
  | [], [], q => q
  | a :: r, b :: r', q => eqE a b (eqEs r r' q)
  | _, _, _ => False
def eqV : SV → SV → Prop
  | .e a, .e b => eqE a b True
  | .tup l, .tup l' => eqEs l l' True
  | _, _ => False
theorem eqC_ok {a b : SC} {q : Prop} (h : eqC a b q) : a = b ∧ q := by
  unfold eqC at h
  split at h
  · obtain ⟨rfl, rfl, h⟩ := h; exact ⟨rfl, h⟩
  · obtain ⟨rfl, h⟩ := h; exact ⟨rfl, h⟩
  · obtain ⟨rfl, h⟩ := h; exact ⟨rfl, h⟩
  · exact h
theorem eqCs_ok : ∀ {l m : List SC} {q : Prop}, eqCs l m q → l = m ∧ q
  | [], [], q, h => ⟨rfl, h⟩
  | a :: r, b :: r', q, h => by
    obtain ⟨h1, h2⟩ := eqC_ok (show eqC a b (eqCs r r' q) from h)
    obtain ⟨h3, h4⟩ := eqCs_ok h2
    exact ⟨by rw [h1, h3], h4⟩
theorem eqE_ok {a b : SE} {q : Prop} (h : eqE a b q) : a = b ∧ q := by
  cases a <;> cases b <;> simp only [eqE] at h
  · obtain ⟨h1, h2⟩ := eqC_ok h; exact ⟨by rw [h1], h2⟩
  · obtain ⟨h1, h2⟩ := eqCs_ok h; exact ⟨by rw [h1], h2⟩
  · obtain ⟨h1, h2⟩ := h; exact ⟨by rw [h1], h2⟩
theorem eqEs_ok : ∀ {l m : List SE} {q : Prop}, eqEs l m q → l = m ∧ q
  | [], [], q, h => ⟨rfl, h⟩
  | a :: r, b :: r', q, h => by
    obtain ⟨h1, h2⟩ := eqE_ok (show eqE a b (eqEs r r' q) from h)
    obtain ⟨h3, h4⟩ := eqEs_ok h2
    exact ⟨by rw [h1, h3], h4⟩
theorem eqV_ok {a b : SV} (h : eqV a b) : a = b := by
  cases a <;> cases b <;> simp only [eqV] at h
  · rw [(eqE_ok h).1]
  · rw [(eqEs_ok h).1]

/-- The end of a function: what it hands back is what it should. -/
def fin (T : TT) (F : Hp) (fn : Func) (v : SV) (e : Ex) (s : SS) : Prop :=
  match e with
  | .exit _ => False
  | _ => match sres T F s fn.results.toList with
    | some us => eqV (resV us) v
    | none => False

def nums : List Nat := [0, 1, 2, 3, 4, 5, 6, 7, 8, 9, 10, 11]
def argT : List Nat → List SV → List (Nat × SV)
  | i :: l, v :: r => (i, v) :: argT l r
  | _, _ => []
/-- The state in which a function that has nothing of its own begins. -/
def s0 (vs : List SV) : SS := ⟨argT nums vs, [], []⟩

def SE.vals : SE → Bool
  | .arr _ => true
  | u => u.cells.all fun | .val _ => true | _ => false
def SV.vals : SV → Bool
  | .e u => u.vals
  | .tup l => l.all SE.vals
theorem SC.vals_den {c : SC} (h : (match c with | .val _ => true | _ => false) = true) (ρ ρ' : Env) : c.den ρ = c.den ρ' ∧ c.ok ρ := by
  cases c <;> first | exact ⟨rfl, trivial⟩ | (simp at h)
theorem SE.vals_den {u : SE} (h : u.vals = true) (ρ ρ' : Env) : u.den ρ = u.den ρ' ∧ u.ok ρ := by
  cases u with
  | arr xs => exact ⟨rfl, fun c hc => by simp [SE.cells] at hc; obtain ⟨v, _, rfl⟩ := hc; trivial⟩
  | c x =>
    have h' := List.all_eq_true.1 h
    exact ⟨(SC.vals_den (h' x (by simp [SE.cells])) ρ ρ').1, fun c hc => (SC.vals_den (h' c hc) ρ ρ').2⟩
  | agg cs =>
    have h' := List.all_eq_true.1 h
    refine ⟨?_, fun c hc => (SC.vals_den (h' c hc) ρ ρ').2⟩
    simp only [SE.den]; rw [show cs.map (SC.den ρ) = cs.map (SC.den ρ') from List.map_congr_left (fun c hc => (SC.vals_den (h' c hc) ρ ρ').1)]
theorem SV.vals_den {v : SV} (h : v.vals = true) (ρ ρ' : Env) : v.den ρ = v.den ρ' ∧ v.ok ρ := by
  cases v with
  | e u => exact SE.vals_den h ρ ρ'
  | tup l =>
    have h' := List.all_eq_true.1 h
    exact ⟨by simp only [SV.den]; rw [List.map_congr_left (fun u hu => (SE.vals_den (h' u hu) ρ ρ').1)], fun u hu => (SE.vals_den (h' u hu) ρ ρ').2⟩

def ρ0 : Env := fun _ => none

theorem lk_argT : ∀ (l : List Nat) (vs : List SV) (k : Nat) (v : SV), lk (argT l vs) k = some v → ∃ j : Nat, l[j]? = some k ∧ vs[j]? = some v
  | [], vs, k, v, h => by simp [argT, lk] at h
  | i :: l, [], k, v, h => by simp [argT, lk] at h
  | i :: l, u :: r, k, v, h => by
    simp only [argT, lk_cons] at h
    split at h
    · rename_i e; subst e; cases h; exact ⟨0, rfl, rfl⟩
    · obtain ⟨j, h1, h2⟩ := lk_argT l r k v h
      exact ⟨j + 1, h1, h2⟩
theorem lk_args {vs : List SV} {k : Nat} {v : SV} (h : lk (argT nums vs) k = some v) : vs[k]? = some v := by
  obtain ⟨j, h1, h2⟩ := lk_argT _ _ _ _ h
  have : j = k := by
    have hj : j < nums.length := (List.getElem?_eq_some_iff.1 h1).1
    simp only [nums, List.length_cons, List.length_nil] at hj
    have : j = 0 ∨ j = 1 ∨ j = 2 ∨ j = 3 ∨ j = 4 ∨ j = 5 ∨ j = 6 ∨ j = 7 ∨ j = 8 ∨ j = 9 ∨ j = 10 ∨ j = 11 := by omega
    rcases this with rfl | rfl | rfl | rfl | rfl | rfl | rfl | rfl | rfl | rfl | rfl | rfl <;> simpa [nums] using h1
  rw [← this]; exact h2

/-- A FUNCTION THAT ONLY RECKONS, its memory its own. -/
theorem pure_calls {P : Program} {f : FuncId} {fn : Func} {c : Code} {E : En} (hf : P.funcs[f]? = some fn) (hb : fn.body = some c) (hm : P.follows .mixedOrders = true) (hT : TOK P E.T) (hsp : SpecsOK P E.sp) {vs : List SV} (hvs : vs.all SV.vals = true) (hn : E.n = vs.length + (fn.ntmps - vs.length)) (hrt : [] = E.rt) {v : SV} (hv : v.vals = true) {w : World}
    (hF : E.F = fun k => w.heap[k]?)
    (hvc : vc E c (s0 vs) (fin E.T E.F fn v)) :
    Calls P f (vs.map (SV.den ρ0)).toArray w fun e w' => e = .returned (v.den ρ0) ∧ Below w.heap.size w w' := by
  refine calls_of_wp hf hb ?_
  have hmem : ∀ u ∈ vs, u.vals = true := List.all_eq_true.1 hvs
  refine vc_ok (C := ⟨P, E.F, w, E.n, [], []⟩) hm rfl rfl hT hsp hrt c (s0 vs) _ _ hvc (fun t b h => by simp [s0, lk] at h) ?_ _ _ ?_
  · intro e s' hk hfin a w' ⟨h1, h2, h3, ρ, h, h4, h5, _⟩
    obtain ⟨he, us, hus, hres⟩ : (match e with | .exit _ => False | _ => True) ∧ ∃ us, sres E.T E.F s' fn.results.toList = some us ∧ resV us = v := by
      unfold fin at hfin
      cases e <;> simp only at hfin
      · split at hfin
        · rename_i us hus; exact ⟨trivial, us, hus, eqV_ok hfin⟩
        · exact hfin.elim
      · split at hfin
        · rename_i us hus; exact ⟨trivial, us, hus, eqV_ok hfin⟩
        · exact hfin.elim
    obtain ⟨p1, p2⟩ := results_run (C := ⟨P, E.F, w, E.n, [], []⟩) hT hk h4 h5 hus
    rw [hres] at p1
    have hpost : bodyPost P fn (fun e w' => e = .returned (v.den ρ0) ∧ Below w.heap.size w w') .ret a w' := by
      refine ⟨h2, v.den ρ, p1, ?_, ?_⟩
      · rw [(SV.vals_den hv ρ ρ0).1]
      · refine ⟨h3.os, h3.tape, h3.output, h3.size, fun k hk => ?_⟩
        have hlt : w.heap[k]? = some w.heap[k] := Array.getElem?_eq_getElem hk
        rw [hlt]
        refine h4.fr k _ ?_
        rw [hF]
        exact hlt
    cases e with
    | normal => exact hpost
    | ret => exact hpost
    | exit id => exact he.elim
  · refine ⟨by simp [hn], rfl, ⟨rfl, rfl, rfl, Nat.le_refl _⟩, ρ0, fun _ _ => none, ⟨fun _ _ => rfl, fun x A hx => by simp [s0, SS.fn, lk] at hx, fun x y k o hx _ => (by cases hx), fun x k o hx => (by cases hx), fun k o hk => (by simp only [hF] at hk; exact hk)⟩, ?_, fun p hp => by simp at hp⟩
    intro t u ht
    have h2' : vs[t]? = some u := lk_args ht
    refine ⟨?_, (SV.vals_den (hmem u (List.mem_of_getElem? h2')) ρ0 ρ0).2⟩
    have hlt : t < vs.length := (List.getElem?_eq_some_iff.1 h2').1
    simp only [Array.getD_eq_getD_getElem?]
    rw [Array.getElem?_append_left (by simpa using hlt)]
    simp [h2']

theorem hsat_below {F : Hp} {atm : Nat → Option Atom} {ρ : Env} {h : Nat → Hp} {w w' : World} (hs : HSat F atm ρ h w) (hb : Below w.heap.size w w') : HSat F atm ρ h w' := by
  have keep : ∀ k o, w.heap[k]? = some o → w'.heap[k]? = some o := fun k o hk => (hb.block k (Array.getElem?_eq_some_iff.1 hk).1).trans hk
  exact ⟨hs.new, hs.sat, hs.apart, fun x k o hx => ⟨keep k o (hs.own x k o hx).1, (hs.own x k o hx).2⟩, fun k o hk => keep k o (hs.fr k o hk)⟩

abbrev PureG := Hp → List SV → Option (Cd × SV)
def pureS (p : PureG) : SpecG := fun F _ _ vs => match p F vs with
  | some (c, v) => some (.one ⟨c, v, [], []⟩)
  | none => none

theorem pure_ok {P : Program} {f : FuncId} {p : PureG} (body : ∃ fn c, P.funcs[f]? = some fn ∧ fn.body = some c ∧ (fn.name == "runtime.NumGoroutine") = false)
    (h : ∀ F vs c v, p F vs = some (c, v) → c.holds → v.vals = true ∧ vs.all SV.vals = true ∧ ∀ w, (∀ k o, F k = some o → w.heap[k]? = some o) →
      Calls P f (vs.map (SV.den ρ0)).toArray w fun e w' => e = .returned (v.den ρ0) ∧ Below w.heap.size w w') : SpecOK P f (pureS p) := by
  refine ⟨body, fun F atm atm' x args a r hr ha _ _ => ⟨a, hr, ha⟩, ?_⟩
  intro F atm x args al r hr ha hc ρ hh w hs hok
  unfold pureS at hr
  split at hr
  · rename_i c v hp
    cases hr
    simp only [Alt.has] at ha
    subst ha
    obtain ⟨h1, h2, h3⟩ := h F args c v hp hc
    have hargs : args.map (SV.den ρ) = args.map (SV.den ρ0) := List.map_congr_left (fun u hu => (SV.vals_den (List.all_eq_true.1 h2 u hu) ρ ρ0).1)
    rw [hargs]
    refine (h3 w hs.fr).mono ?_
    rintro e w' ⟨rfl, hb⟩
    refine ⟨ρ, hh, by rw [(SV.vals_den h1 ρ ρ0).1], Ext.refl ρ, (SV.vals_den h1 ρ ρ0).2, ?_, ⟨hb.os, hb.tape, hb.output, hb.size⟩⟩
    have : updA atm [] = atm := by funext x; rfl
    rw [this]
    exact hsat_below hs hb
  · cases hr

theorem specs_nil (P : Program) : SpecsOK P (fun _ => none) := fun f g h => by cases h
def consSp (f : FuncId) (g : SpecG) (sp : Specs) : Specs := fun x => match Nat.beq x f with | true => some g | false => sp x
theorem specs_cons {P : Program} {sp : Specs} {f : FuncId} {g : SpecG} (h : SpecOK P f g) (hs : SpecsOK P sp) : SpecsOK P (consSp f g sp) := by
  intro x g' hx
  unfold consSp at hx
  split at hx
  · rename_i he
    have : x = f := Nat.eq_of_beq_eq_true he
    subst this
    cases hx
    exact h
  · exact hs x g' hx

end Go.Sy
