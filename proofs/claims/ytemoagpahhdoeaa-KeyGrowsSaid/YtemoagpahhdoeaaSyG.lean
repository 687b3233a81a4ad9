/- Functions that have memory of their own, or change what they are lent: what a call does. No condition. -/
import Derived.Test.YtemoagpahhdoeaaSyF
namespace Go.Sy
set_option linter.unusedSimpArgs false
set_option linter.unusedVariables false
open Go.RowKit (Below)

theorem lk_ids {α : Type} : ∀ {l : List (Nat × α)} {k : Nat}, k ∈ ids l → ∃ v, lk l k = some v
  | [], k, h => by simp [ids] at h
  | (j, u) :: r, k, h => by
    rw [lk_cons]
    by_cases e : j = k
    · exact ⟨u, by simp [e]⟩
    · simp only [ids, List.mem_cons] at h
      obtain ⟨v, hv⟩ := lk_ids (h.resolve_left (fun q => e q.symm))
      exact ⟨v, by simp [e, hv]⟩

/-- Out of a state's heap part, one of fewer blocks, renamed. -/
theorem hsat_ren {F Fc : Hp} {atm : Nat → Option Atom} {ρ : Env} {h : Nat → Hp} {w : World} (hs : HSat F atm ρ h w) {l : List (Nat × Atom)} {π : Nat → Nat} (h2 : ∀ k v, lk l k = some v → atm (π k) = some (v.ren π)) (h4 : ∀ y ∈ hIds l, y ∈ ids l) (h5 : ∀ x ∈ ids l, ∀ y ∈ ids l, π x = π y → x = y)
    (hF : ∀ k o, Fc k = some o → w.heap[k]? = some o) (hFo : ∀ x ∈ ids l, ∀ k o, h (π x) k = some o → Fc k = none) :
    HSat Fc (lk l) (fun x => if x ∈ ids l then ρ (π x) else none) (fun x => if x ∈ ids l then h (π x) else fun _ => none) w := by
  have hin : ∀ x, x ∈ ids l → (fun x => if x ∈ ids l then ρ (π x) else none) x = ρ (π x) := fun x hx => by simp [hx]
  refine ⟨?_, ?_, ?_, ?_, hF⟩
  · intro x hx
    have : x ∉ ids l := fun hm => by
      obtain ⟨v, hv⟩ := lk_ids hm
      rw [hv] at hx
      cases hx
    simp [this]
  · intro x A hx'
    have hm := lk_mem hx'
    have hA := hs.sat (π x) _ (h2 x A hx')
    simp only [hm, if_true]
    cases A with
    | gone => trivial
    | row e z n xs =>
      obtain ⟨g, c, cur, q1, q2, q3⟩ := hA
      exact ⟨g, c, cur, by simp only [hm, if_true]; exact q1, q2, q3⟩
    | mpb k m =>
      obtain ⟨g, c, es, cl, q1, q2, q3⟩ := hA
      exact ⟨g, c, es, cl, by simp only [hm, if_true]; exact q1, q2, q3⟩
    | blk e cs =>
      obtain ⟨g, c, q1, q2, q3, q4⟩ := hA
      have hids : ∀ y ∈ csIds cs, (fun x => if x ∈ ids l then ρ (π x) else none) y = ρ (π y) := fun y hy => hin y (h4 y (lk_hIds hx' y hy))
      obtain ⟨p1, p2⟩ := cs_ren_den hids q3
      refine ⟨g, c, by simp only [hm, if_true]; exact q1, by rw [← p1]; exact q2, p2, ?_⟩
      refine allOne_of (fun c hc => ?_)
      have := allOne_mem q4 (List.mem_map.2 ⟨c, hc, rfl⟩ : c.ren π ∈ cs.map (SC.ren π))
      cases c <;> first | exact this | rfl
  · intro x y k o hx hne
    by_cases hm : x ∈ ids l
    · simp only [hm, if_true] at hx
      by_cases hm' : y ∈ ids l
      · simp only [hm', if_true]
        exact hs.apart _ _ k o hx (fun q => hne (h5 x hm y hm' q))
      · simp [hm']
    · simp [hm] at hx
  · intro x k o hx
    by_cases hm : x ∈ ids l
    · simp only [hm, if_true] at hx
      exact ⟨(hs.own _ k o hx).1, hFo x hm k o hx⟩
    · simp [hm] at hx

theorem SC.ren_den' {ρ ρ' : Env} {π : Nat → Nat} {c : SC} (h : ∀ x ∈ c.ids, ρ' x = ρ (π x)) (hc : c.ok ρ') : (c.ren π).den ρ = c.den ρ' ∧ (c.ren π).ok ρ := by
  refine ⟨(SC.ren_den h ?_).1, ?_⟩ <;>
  · cases c with
    | val v => trivial
    | ptr x o => simp only [SC.ren, SC.ok] at hc ⊢; rw [← h x (by simp [SC.ids])]; exact hc
    | sli x n => simp only [SC.ren, SC.ok] at hc ⊢; rw [← h x (by simp [SC.ids])]; exact hc
    | mp x => simp only [SC.ren, SC.ok] at hc ⊢; rw [← h x (by simp [SC.ids])]; exact hc
    | fn f l m =>
      simp only [SC.ren, SC.ok] at hc ⊢
      intro p hp
      obtain ⟨q, hq, rfl⟩ := List.mem_map.1 hp
      rw [← h q.1 (by simp only [SC.ids]; exact List.mem_map.2 ⟨q, hq, rfl⟩)]
      exact hc q hq
theorem cs_ren_den' {ρ ρ' : Env} {π : Nat → Nat} {cs : List SC} (h : ∀ x ∈ csIds cs, ρ' x = ρ (π x)) (hc : ∀ c ∈ cs, c.ok ρ') : (cs.map (SC.ren π)).map (SC.den ρ) = cs.map (SC.den ρ') ∧ ∀ c ∈ cs.map (SC.ren π), c.ok ρ := by
  refine ⟨?_, fun c hm => ?_⟩
  · rw [List.map_map]
    exact List.map_congr_left (fun c hm => (SC.ren_den' (fun x hx => h x (csIds_mem hm hx)) (hc c hm)).1)
  · obtain ⟨d, hd, rfl⟩ := List.mem_map.1 hm
    exact (SC.ren_den' (fun x hx => h x (csIds_mem hd hx)) (hc d hd)).2
theorem SE.ren_den' {ρ ρ' : Env} {π : Nat → Nat} {u : SE} (h : ∀ x ∈ u.ids, ρ' x = ρ (π x)) (hc : u.ok ρ') : (u.ren π).den ρ = u.den ρ' ∧ (u.ren π).ok ρ := by
  obtain ⟨p1, p2⟩ := cs_ren_den' (cs := u.cells) h hc
  refine ⟨?_, by unfold SE.ok; rw [SE.ren_cells]; exact p2⟩
  cases u with
  | c x => simp only [SE.cells, List.map_cons, List.map_nil, List.cons.injEq, and_true] at p1; exact p1
  | agg cs => simp only [SE.cells] at p1; simp only [SE.ren, SE.den]; rw [p1]
  | arr xs => rfl
theorem SV.ren_den' {ρ ρ' : Env} {π : Nat → Nat} {v : SV} (h : ∀ x ∈ v.ids, ρ' x = ρ (π x)) (hc : v.ok ρ') : (v.ren π).den ρ = v.den ρ' ∧ (v.ren π).ok ρ := by
  cases v with
  | e u => exact SE.ren_den' h hc
  | tup l =>
    simp only [SV.ren, SV.ok, SV.den] at hc ⊢
    have := fun u (hu : u ∈ l) => SE.ren_den' (π := π) (u := u) (fun x hx => h x (esIds_mem hu hx)) (hc u hu)
    have e : l.map (SE.den ρ ∘ SE.ren π) = l.map (SE.den ρ') := List.map_congr_left (fun u hu => (this u hu).1)
    refine ⟨by rw [List.map_map, e], fun u hu => ?_⟩
    obtain ⟨d, hd, rfl⟩ := List.mem_map.1 hu
    exact (this d hd).2

def renH (τ : Nat → Nat) : List (Nat × Atom) → List (Nat × Atom)
  | [] => []
  | (k, A) :: r => (τ k, A.ren τ) :: renH τ r
theorem lk_renH {τ : Nat → Nat} : ∀ {l : List (Nat × Atom)}, (∀ x ∈ ids l, ∀ y ∈ ids l, τ x = τ y → x = y) → ∀ x ∈ ids l, lk (renH τ l) (τ x) = (lk l x).map (Atom.ren τ)
  | [], _, x, hx => by simp [ids] at hx
  | (k, A) :: r, hi, x, hx => by
    simp only [renH, lk_cons]
    by_cases e : k = x
    · simp [e]
    · have : τ k ≠ τ x := fun q => e (hi k (by simp [ids]) x hx q)
      simp only [e, this, if_false]
      simp only [ids, List.mem_cons] at hx
      exact lk_renH (fun a ha b hb => hi a (by simp [ids, ha]) b (by simp [ids, hb])) x (hx.resolve_left (fun q => e q.symm))
theorem mem_renH {τ : Nat → Nat} : ∀ {l : List (Nat × Atom)} {z : Nat}, z ∈ ids (renH τ l) ↔ ∃ x ∈ ids l, τ x = z
  | [], z => by simp [renH, ids]
  | (k, A) :: r, z => by
    simp only [renH, ids, List.mem_cons, mem_renH (l := r)]
    constructor
    · rintro (rfl | ⟨x, hx, rfl⟩)
      · exact ⟨k, .inl rfl, rfl⟩
      · exact ⟨x, .inr hx, rfl⟩
    · rintro ⟨x, rfl | hx, rfl⟩
      · exact .inl rfl
      · exact .inr ⟨x, hx, rfl⟩

open Classical in
/-- Back from a callee's state to its caller's. -/
theorem own_back {F Fc : Hp} {atm : Nat → Option Atom} {ρ : Env} {h : Nat → Hp} {w : World} (hs : HSat F atm ρ h w) {rts hl : List (Nat × Atom)} {τ : Nat → Nat} {w' : World} {ρ' : Env} {h' : Nat → Hp} (hs' : HSat Fc (lk hl) ρ' h' w')
    (hFc : ∀ k o, w.heap[k]? = some o → Fc k = some o ∨ ∃ r ∈ ids rts, ∃ o', h (τ r) k = some o')
    (hsub : ∀ r ∈ ids rts, r ∈ ids hl) (hr : ∀ r ∈ ids rts, ρ' r = ρ (τ r)) (hfresh : ∀ x ∈ ids hl, x ∉ ids rts → atm (τ x) = none) (hinj : ∀ x ∈ ids hl, ∀ y ∈ ids hl, τ x = τ y → x = y) (hcl : ∀ y ∈ hIds hl, y ∈ ids hl) :
    ∃ ρ'' h'', Ext ρ ρ'' ∧ HSat F (updA atm (renH τ hl)) ρ'' h'' w' ∧ ∀ v : SV, (∀ y ∈ v.ids, y ∈ ids hl) → v.ok ρ' → (v.ren τ).den ρ'' = v.den ρ' ∧ (v.ren τ).ok ρ'' := by
  let inv : Nat → Nat := fun z => if hz : ∃ x ∈ ids hl, τ x = z then Classical.choose hz else 0
  have hinv : ∀ x ∈ ids hl, inv (τ x) = x := fun x hx => by
    have hz : ∃ y ∈ ids hl, τ y = τ x := ⟨x, hx, rfl⟩
    have := Classical.choose_spec hz
    simp only [inv, hz, dif_pos]
    exact hinj _ this.1 x hx this.2
  let ρ'' : Env := fun z => if z ∈ ids (renH τ hl) then ρ' (inv z) else ρ z
  let hx : Nat → Hp := fun z => if z ∈ ids (renH τ hl) then h' (inv z) else fun _ => none
  have hmem : ∀ x ∈ ids hl, τ x ∈ ids (renH τ hl) := fun x hm => mem_renH.2 ⟨x, hm, rfl⟩
  have hρ : ∀ x ∈ ids hl, ρ' x = ρ'' (τ x) := fun x hm => by simp only [ρ'', hmem x hm, if_true, hinv x hm]
  have hh : ∀ x ∈ ids hl, hx (τ x) = h' x := fun x hm => by simp only [hx, hmem x hm, if_true, hinv x hm]
  have hext : Ext ρ ρ'' := by
    intro z p hz
    by_cases hm : z ∈ ids (renH τ hl)
    · obtain ⟨x, hm', rfl⟩ := mem_renH.1 hm
      rw [← hρ x hm']
      by_cases hmr : x ∈ ids rts
      · rw [hr x hmr]; exact hz
      · rw [hs.new _ (hfresh x hm' hmr)] at hz; cases hz
    · simp only [ρ'', hm, if_false]; exact hz
  refine ⟨ρ'', _, hext, hsat_gen (hx := hx) hs hext ?_ ?_ ?_ ?_ ?_, fun v hv hok => SV.ren_den' (fun x hx => hρ x (hv x hx)) hok⟩
  · intro z hz
    unfold updA at hz
    have hm : z ∉ ids (renH τ hl) := fun hm => by
      obtain ⟨v, hv⟩ := lk_ids hm
      rw [hv] at hz; cases hz
    cases hl' : lk (renH τ hl) z with
    | some A => rw [hl'] at hz; cases hz
    | none =>
      rw [hl'] at hz
      simp only [ρ'', hm, if_false]
      exact hs.new z hz
  · intro z A hz
    obtain ⟨x, hm, rfl⟩ := mem_renH.1 (lk_mem hz)
    rw [lk_renH hinj x hm] at hz
    obtain ⟨B, hB, rfl⟩ := Option.map_eq_some_iff.1 hz
    have hA := hs'.sat x B hB
    rw [hh x hm]
    cases B with
    | gone => trivial
    | row e z n xs =>
      obtain ⟨g, c, cur, q1, q2, q3⟩ := hA
      exact ⟨g, c, cur, by rw [← hρ x hm]; exact q1, q2, q3⟩
    | mpb k m =>
      obtain ⟨g, c, es, cl, q1, q2, q3⟩ := hA
      exact ⟨g, c, es, cl, by rw [← hρ x hm]; exact q1, q2, q3⟩
    | blk e cs =>
      obtain ⟨g, c, q1, q2, q3, q4⟩ := hA
      obtain ⟨p1, p2⟩ := cs_ren_den' (π := τ) (fun y hy => hρ y (hcl y (lk_hIds hB y hy))) q3
      refine ⟨g, c, by rw [← hρ x hm]; exact q1, by rw [p1]; exact q2, p2, ?_⟩
      refine allOne_of (fun c hc => ?_)
      obtain ⟨d, hd, rfl⟩ := List.mem_map.1 hc
      have := allOne_mem q4 hd
      cases d <;> first | exact this | rfl
  · intro y z k o hy hz hk hne
    obtain ⟨x, hm, rfl⟩ := mem_renH.1 hy
    obtain ⟨x', hm', rfl⟩ := mem_renH.1 hz
    rw [hh x hm] at hk
    rw [hh x' hm']
    exact hs'.apart x x' k o hk (fun q => hne (by rw [q]))
  · intro z k o hz hk
    obtain ⟨x, hm, rfl⟩ := mem_renH.1 hz
    rw [hh x hm] at hk
    obtain ⟨h1, h2⟩ := hs'.own x k o hk
    refine ⟨h1, ?_⟩
    by_cases hlt : k < w.heap.size
    · have hk' : w.heap[k]? = some w.heap[k] := Array.getElem?_eq_getElem hlt
      rcases hFc k _ hk' with h3 | ⟨r, hr', o', ho'⟩
      · rw [h2] at h3; cases h3
      · exact .inl ⟨τ r, hmem r (hsub r hr'), o', ho'⟩
    · exact .inr (by omega)
  · intro k o hk hno
    rcases hFc k o hk with h3 | ⟨r, hr', o', ho'⟩
    · exact hs'.fr k o h3
    · have := hno (τ r) (hmem r (hsub r hr'))
      rw [this] at ho'; cases ho'

/-- The end of a function that has memory: what it hands back, and what its memory holds then. -/
def finM (T : TT) (F : Hp) (fn : Func) (rt : List Nat) (v : SV) (hl : List (Nat × Atom)) (e : Ex) (s : SS) : Prop :=
  match e with
  | .exit _ => False
  | _ => match sres T F s fn.results.toList with
    | some us => Le rt ⟨[(0, resV us)], s.h, []⟩ ⟨[(0, v)], hl, []⟩
    | none => False

/-- A FUNCTION, RUN: its memory the roots, and what it makes. -/
theorem own_calls {P : Program} {f : FuncId} {fn : Func} {c : Code} {E : En} (hf : P.funcs[f]? = some fn) (hb : fn.body = some c) (hm : P.follows .mixedOrders = true) (hT : TOK P E.T) (hsp : SpecsOK P E.sp) {vs : List SV} {rts : List (Nat × Atom)} (hn : E.n = vs.length + (fn.ntmps - vs.length)) (hrt : ids rts = E.rt) {v : SV} {hl : List (Nat × Atom)} {w : World} {ρ : Env} {h : Nat → Hp}
    (hs : HSat E.F (lk rts) ρ h w) (hok : ∀ u ∈ vs, u.ok ρ) (hisS : ∀ r ∈ ids rts, (ρ r).isSome = true)
    (hvc : vc E c ⟨argT nums vs, rts, []⟩ (finM E.T E.F fn E.rt v hl)) :
    Calls P f (vs.map (SV.den ρ)).toArray w fun e w' => ∃ ρ' h', e = .returned (v.den ρ') ∧ v.ok ρ' ∧ HSat E.F (lk hl) ρ' h' w' ∧ Strm w w' ∧ ∀ r ∈ ids rts, ρ' r = ρ r := by
  refine calls_of_wp hf hb ?_
  have hroots : ((ids rts).map fun r => (r, (ρ r).getD (0, 0))).map (·.1) = E.rt := by
    rw [← hrt, List.map_map]
    have : ((fun x : Nat × (Nat × Nat) => x.1) ∘ fun r => (r, (ρ r).getD (0, 0))) = id := by funext r; rfl
    rw [this]; simp
  refine vc_ok (C := ⟨P, E.F, w, E.n, [], (ids rts).map fun r => (r, (ρ r).getD (0, 0))⟩) hm rfl rfl hT hsp hroots c _ _ _ hvc (fun t b h => by simp [lk] at h) ?_ _ _ ?_
  · intro e s' hk hfin a w' hsat
    have main : ∀ us, sres E.T E.F s' fn.results.toList = some us → Le E.rt ⟨[(0, resV us)], s'.h, []⟩ ⟨[(0, v)], hl, []⟩ → bodyPost P fn (fun e w' => ∃ ρ' h', e = .returned (v.den ρ') ∧ v.ok ρ' ∧ HSat E.F (lk hl) ρ' h' w' ∧ Strm w w' ∧ ∀ r ∈ ids rts, ρ' r = ρ r) .ret a w' := by
      intro us hus hle
      obtain ⟨h1, h2, h3, ρ1, h', h4, h5, h6⟩ := hsat
      obtain ⟨p1, p2⟩ := results_run (C := ⟨P, E.F, w, E.n, [], (ids rts).map fun r => (r, (ρ r).getD (0, 0))⟩) hT hk h4 h5 hus
      have hone : Sat ⟨P, E.F, w, 1, [], (ids rts).map fun r => (r, (ρ r).getD (0, 0))⟩ (SS.mk [(0, resV us)] s'.h []).fn { a with tmps := #[(resV us).den ρ1] } w' := by
        refine ⟨rfl, h2, h3, ρ1, h', h4, ?_, h6⟩
        intro t u ht
        have ht' : lk [(0, resV us)] t = some u := ht
        rw [lk_cons, lk_nil] at ht'
        split at ht'
        · rename_i e0; subst e0; cases ht'; exact ⟨rfl, p2⟩
        · cases ht'
      obtain ⟨q1, q2, q3, ρ2, h2', q4, q5, q6⟩ := sat_le hroots hle hone
      obtain ⟨r1, r2⟩ := q5 0 v rfl
      have r1' : (resV us).den ρ1 = v.den ρ2 := r1
      refine ⟨h2, v.den ρ2, by rw [← r1']; exact p1, ρ2, h2', rfl, r2, q4, h3, fun r hr => ?_⟩
      have := q6 (r, (ρ r).getD (0, 0)) (List.mem_map.2 ⟨r, hr, rfl⟩)
      simp only at this
      rw [this]
      obtain ⟨p, hp⟩ := Option.isSome_iff_exists.1 (hisS r hr)
      rw [hp]; rfl
    unfold finM at hfin
    cases e <;> simp only at hfin
    · split at hfin
      · rename_i us hus; exact main us hus hfin
      · exact hfin.elim
    · split at hfin
      · rename_i us hus; exact main us hus hfin
      · exact hfin.elim
  · refine ⟨by simp [hn], rfl, ⟨rfl, rfl, rfl, Nat.le_refl _⟩, ρ, h, hs, ?_, ?_⟩
    · intro t u ht
      have h2' : vs[t]? = some u := lk_args ht
      refine ⟨?_, hok u (List.mem_of_getElem? h2')⟩
      have hlt : t < vs.length := (List.getElem?_eq_some_iff.1 h2').1
      simp only [Array.getD_eq_getD_getElem?]
      rw [Array.getElem?_append_left (by simpa using hlt)]
      simp [h2']
    · intro p hp
      obtain ⟨r, hr, rfl⟩ := List.mem_map.1 hp
      obtain ⟨p, hp⟩ := Option.isSome_iff_exists.1 (hisS r hr)
      simp [hp]

def notGone : Atom → Bool
  | .gone => false
  | _ => true

open Classical in
/-- A FUNCTION THAT IS LENT MEMORY: what a call does to it. τ names the callee's blocks as the caller does. -/
theorem own_out {P : Program} {f : FuncId} {fn : Func} {c : Code} {T : TT} {sp : Specs} (hf : P.funcs[f]? = some fn) (hb : fn.body = some c) (hm : P.follows .mixedOrders = true) (hT : TOK P T) (hsp : SpecsOK P sp) {F : Hp} {atm : Nat → Option Atom} {ρ : Env} {h : Nat → Hp} {w : World} (hs : HSat F atm ρ h w)
    {vs args : List SV} {rts hl wa : List (Nat × Atom)} {v r : SV} {τ : Nat → Nat} {n : Nat} (hn : n = vs.length + (fn.ntmps - vs.length)) (hargs : args = vs.map (SV.ren τ)) (hok : ∀ u ∈ args, u.ok ρ) (hroots : ∀ k A, lk rts k = some A → notGone A = true ∧ atm (τ k) = some (A.ren τ)) (hvs : ∀ u ∈ vs, ∀ y ∈ u.ids, y ∈ ids rts) (hcl : ∀ y ∈ hIds rts, y ∈ ids rts) (hinj : ∀ x ∈ ids hl, ∀ y ∈ ids hl, τ x = τ y → x = y)
    (hsub : ∀ x ∈ ids rts, x ∈ ids hl) (hcl' : ∀ y ∈ hIds hl, y ∈ ids hl) (hv : ∀ y ∈ v.ids, y ∈ ids hl) (hfresh : ∀ x ∈ ids hl, x ∉ ids rts → atm (τ x) = none) (hwa : wa = renH τ hl) (hr : r = v.ren τ)
    (hrun : ∀ Fc : Hp, (∀ k o, F k = some o → Fc k = some o) → vc ⟨T, sp, Fc, n, ids rts⟩ c ⟨argT nums vs, rts, []⟩ (finM T Fc fn (ids rts) v hl)) :
    Calls P f (args.map (SV.den ρ)).toArray w fun e w' => ∃ ρ' h', e = .returned (r.den ρ') ∧ Ext ρ ρ' ∧ r.ok ρ' ∧ HSat F (updA atm wa) ρ' h' w' ∧ Strm w w' := by
  let Fc : Hp := fun k => if ∃ x ∈ ids rts, ∃ o, h (τ x) k = some o then none else w.heap[k]?
  have hinj' : ∀ x ∈ ids rts, ∀ y ∈ ids rts, τ x = τ y → x = y := fun x hx y hy => hinj x (hsub x hx) y (hsub y hy)
  have hsc := hsat_ren (Fc := Fc) hs (fun k A hk => (hroots k A hk).2) hcl hinj' (fun k o hk => by
    simp only [Fc] at hk
    split at hk
    · cases hk
    · exact hk) (fun x hx k o hk => by
    simp only [Fc]
    rw [if_pos ⟨x, hx, o, hk⟩])
  have hρc : ∀ x ∈ ids rts, (fun x => if x ∈ ids rts then ρ (τ x) else none) x = ρ (τ x) := fun x hx => by simp [hx]
  have hargs' : args.map (SV.den ρ) = vs.map (SV.den fun x => if x ∈ ids rts then ρ (τ x) else none) := by
    rw [hargs, List.map_map]
    refine List.map_congr_left (fun u hu => ?_)
    exact (SV.ren_den (fun x hx => hρc x (hvs u hu x hx)) (hok _ (by rw [hargs]; exact List.mem_map.2 ⟨u, hu, rfl⟩))).1
  have hok' : ∀ u ∈ vs, u.ok fun x => if x ∈ ids rts then ρ (τ x) else none := fun u hu => (SV.ren_den (fun x hx => hρc x (hvs u hu x hx)) (hok _ (by rw [hargs]; exact List.mem_map.2 ⟨u, hu, rfl⟩))).2
  have hFF : ∀ k o, F k = some o → Fc k = some o := fun k o hk => by
    have : ¬ ∃ x ∈ ids rts, ∃ o, h (τ x) k = some o := by
      rintro ⟨x, _, o', ho'⟩
      have := (hs.own _ k o' ho').2
      rw [this] at hk; cases hk
    simp only [Fc, this, if_false]
    exact hs.fr k o hk
  have hisS : ∀ r ∈ ids rts, ((fun x => if x ∈ ids rts then ρ (τ x) else none) r).isSome = true := fun r hr' => by
    obtain ⟨A, hA⟩ := lk_ids hr'
    obtain ⟨h1, h2⟩ := hroots r A hA
    have := hs.sat _ _ h2
    simp only [hr', if_true]
    cases A with
    | gone => cases h1
    | blk e cs => obtain ⟨g, c, q, _⟩ := this; rw [q]; rfl
    | row e z n xs => obtain ⟨g, c, cur, q, _⟩ := this; rw [q]; rfl
    | mpb k m => obtain ⟨g, c, es, cl, q, _⟩ := this; rw [q]; rfl
  have hc := own_calls (E := ⟨T, sp, Fc, n, ids rts⟩) hf hb hm hT hsp hn rfl hsc hok' hisS (hrun Fc hFF)
  rw [hargs']
  refine hc.mono ?_
  rintro e w' ⟨ρ', h', rfl, q1, q2, q3, q4⟩
  obtain ⟨ρ'', h'', b1, b2, b3⟩ := own_back (τ := τ) (rts := rts) hs q2 (fun k o hk => by
    by_cases hx : ∃ x ∈ ids rts, ∃ o, h (τ x) k = some o
    · exact .inr hx
    · exact .inl (by simp only [Fc, hx, if_false]; exact hk)) hsub (fun r hr' => by rw [q4 r hr']; simp [hr']) hfresh hinj hcl'
  obtain ⟨c1, c2⟩ := b3 v hv q1
  exact ⟨ρ'', h'', by rw [hr, c1], b1, by rw [hr]; exact c2, by rw [hwa]; exact b2, q3⟩

end Go.Sy
