/- Places, made to rise. No condition. -/
import Derived.Test.YtemoagpahhdoeaaK6
namespace Go.Proofs.Ytemoagpahhdoeaa
open Go.Sy
set_option linter.unusedSimpArgs false
set_option linter.unusedVariables false
set_option maxRecDepth 100000

def unI : Value → Int
  | .int _ n => n
  | _ => 0
def unIs (xs : List Value) : List Int := xs.map unI
theorem unIs_vi (l : List Int) : unIs (l.map vi) = l := by
  unfold unIs
  rw [List.map_map]
  have : (unI ∘ vi) = id := by funext n; rfl
  rw [this]; simp
theorem celI_vi (l : List Int) (m : Nat) : celI (l.map vi) m = l.getD m 0 := by
  unfold celI
  rw [List.getElem?_map, List.getD]
  cases l[m]? <;> rfl
theorem cCells_vi {l : List Int} {m : Nat} (h : m < l.length) : cCells (l.map vi) m [.int .i64 0] := by
  intro j c hj
  have hlt : j < 1 := by
    have := (List.getElem?_eq_some_iff.1 hj).1
    simpa [rdR] using this
  have : j = 0 := by omega
  subst this
  simp [rdR] at hj
  subst hj
  refine ⟨_, rfl, ?_⟩
  rw [celI_vi]
  simp [List.getElem?_eq_getElem h]
theorem setV_vi {l : List Int} {m : Nat} (v : Int) (h : m < l.length) : setV (l.map vi) m [vi v] = (l.set m v).map vi := by
  apply List.ext_getElem?
  intro j
  rw [setV_get (by simp; omega)]
  simp only [List.getElem?_map, List.getElem?_set, List.length_cons, List.length_nil]
  by_cases e : m = j
  · subst e
    simp [h]
  · rw [if_neg (by omega), if_neg e]
theorem sub63 {k : Nat} (hk : k ≤ 1048576) : isub .i64 ((k + 1 : Nat) : Int) 1 = (k : Int) := by
  unfold isub IntKind.wrap
  simp [IntKind.bits, IntKind.signed]
  omega

def swp (l : List Int) (k : Nat) : List Int := (l.set k (l.getD (k - 1) 0)).set (k - 1) (l.getD k 0)
def insIn : Nat → List Int → List Int
  | 0, l => l
  | k + 1, l => if ilt (l.getD (k + 1) 0) (l.getD k 0) then insIn k (swp l (k + 1)) else l
def srtOut : Nat → Nat → List Int → List Int
  | 0, _, l => l
  | f + 1, i, l => srtOut f (i + 1) (insIn i l)
def sortM (l : List Int) : List Int := srtOut (l.length - 1) 1 l
theorem swp_len (l : List Int) (k : Nat) : (swp l k).length = l.length := by simp [swp]
theorem insIn_len : ∀ (k : Nat) (l : List Int), (insIn k l).length = l.length
  | 0, l => rfl
  | k + 1, l => by
    simp only [insIn]
    split
    · rw [insIn_len k, swp_len]
    · rfl
theorem srtOut_len : ∀ (f i : Nat) (l : List Int), (srtOut f i l).length = l.length
  | 0, i, l => rfl
  | f + 1, i, l => by simp only [srtOut]; rw [srtOut_len f, insIn_len]

def sortSt1 (n : Nat) (p : Nat × List Int) : SS :=
  ⟨[(0, .e (.c (.sli 1001 n))), (3, sval (vi p.1))], [(1001, .row 3 1 n (p.2.map vi))], []⟩
def sortSt2 (n i : Nat) (p : Nat × List Int) : SS :=
  ⟨[(0, .e (.c (.sli 1001 n))), (3, sval (vi i)), (4, sval (vi p.1))], [(1001, .row 3 1 n (p.2.map vi))], []⟩

def sortedG : SpecG := fun F atm z vs => match vs with
  | [.e (.c (.sli y n))] => match atm y with
    | some (.row 3 1 m xs) => some (.one ⟨.p (m = n ∧ xs = (unIs xs).map vi ∧ n ≤ 1048576), .e (.c (.sli y n)), [(y, .row 3 1 n ((sortM (unIs xs)).map vi))], []⟩)
    | _ => none
  | _ => none

theorem sorted_ok : SpecOK Try.prog 21 sortedG := by
  refine ⟨⟨_, _, Try.func21, rfl, by kernel_rfl⟩, ?_, ?_⟩
  · intro F atm atm' z args al r hg hal _ hag
    unfold sortedG at hg
    split at hg
    · rename_i y n
      split at hg
      · rename_i m xs h1
        cases hg
        simp only [Alt.has] at hal
        subst hal
        have e1 : atm' y = atm y := hag y (by simp [ids])
        refine ⟨.one _, ?_, rfl⟩
        simp only [sortedG, e1, h1]
      · cases hg
    · cases hg
  · intro F atm z args al r hg hal hc ρ h w hs hok
    unfold sortedG at hg
    split at hg
    · rename_i y n
      split at hg
      · rename_i m xs h1
        cases hg
        simp only [Alt.has] at hal
        subst hal
        obtain ⟨rfl, hxs, hn⟩ := hc
        obtain ⟨l, hl⟩ : ∃ l, unIs xs = l := ⟨_, rfl⟩
        rw [hl] at hxs
        have hlen : l.length = m := by
          obtain ⟨g, c, cur, q1, q2, q3, _⟩ := hs.sat y _ h1
          rw [hxs] at q3
          simpa using q3
        subst hxs
        refine own_out (n := 45) (τ := tau [(1001, y)]) (rts := [(1001, .row 3 1 m (l.map vi))]) (vs := [.e (.c (.sli 1001 m))]) (v := .e (.c (.sli 1001 m))) (hl := [(1001, .row 3 1 m ((sortM l).map vi))]) Try.func21 rfl mixed Ty_ok sp21_ok hs rfl rfl hok ?_ ?_ ?_ ?_ ?_ ?_ ?_ ?_ (by rw [hl]; rfl) rfl ?_
        · intro k A hk
          have hk' := lk_mem hk
          simp only [ids, List.mem_cons, List.not_mem_nil, or_false] at hk'
          subst hk'
          cases hk
          exact ⟨rfl, h1⟩
        · simp [SV.ids, SE.ids, SE.cells, csIds, SC.ids, ids]
        · simp [hIds, Atom.ids, ids]
        · exact tau_inj (l := [(1001, y)]) rfl
        · exact fun x hx => hx
        · simp [hIds, Atom.ids, ids]
        · simp [SV.ids, SE.ids, SE.cells, csIds, SC.ids, ids]
        · exact fun x hx hn => absurd hx hn
        · intro Fc hFc
          refine ⟨{ p : Nat × List Int // 1 ≤ p.1 ∧ p.2.length = m ∧ srtOut (m - p.1) p.1 p.2 = sortM l }, fun p => sortSt1 m p.1, fun p => m - p.1.1, ⟨(1, l), by simp, by simp [hlen], by simp [sortM, hlen]⟩, ?_, ?_⟩
          · exact ⟨fun x => x, rfl, rfl, ⟨by kernel_rfl, by kernel_rfl, trivial⟩, ⟨by kernel_rfl, trivial⟩, rfl, rfl, rfl⟩
          · rintro ⟨⟨i, s⟩, hi, hsl, hs2⟩
            simp only at hi hsl hs2
            refine ⟨fun h2 => ?_, fun h2 => ?_⟩
            · have hlt : i < m := by simp [ilt] at h2; omega
              have e1 := step63 hlt hn
              refine ⟨{ p : Nat × List Int // p.1 ≤ i ∧ p.2.length = m ∧ insIn p.1 p.2 = insIn i s }, fun p => sortSt2 m i p.1, fun p => p.1.1, ⟨(i, s), by simp, hsl, rfl⟩, ?_, ?_⟩
              · exact ⟨fun x => x, rfl, rfl, ⟨by kernel_rfl, by kernel_rfl, by kernel_rfl, trivial⟩, ⟨by kernel_rfl, trivial⟩, rfl, rfl, rfl⟩
              · rintro ⟨⟨k, t⟩, hk1, hk2, hk3⟩
                simp only at hk1 hk2 hk3
                refine ⟨fun h3 => ?_, fun h3 => ?_⟩
                · obtain ⟨k, rfl⟩ : ∃ k', k = k' + 1 := ⟨k - 1, by simp [ilt] at h3; omega⟩
                  have e2 := sub63 (k := k) (by omega)
                  have cr1 : cRow m ((k + 1 : Nat) : Int) := ⟨Int.natCast_nonneg _, Int.ofNat_lt.2 (by omega)⟩
                  have cr2 : cRow m (isub .i64 ((k + 1 : Nat) : Int) 1) := by rw [e2]; exact ⟨Int.natCast_nonneg _, Int.ofNat_lt.2 (by omega)⟩
                  have o1 : elOff ((k + 1 : Nat) : Int) 1 = k + 1 := by simp [elOff]
                  have o2 : elOff (isub .i64 ((k + 1 : Nat) : Int) 1) 1 = k := by rw [e2]; simp [elOff]
                  have cc1 : cCells (t.map vi) (elOff ((k + 1 : Nat) : Int) 1) [.int .i64 0] := by rw [o1]; exact cCells_vi (by omega)
                  have cc2 : cCells (t.map vi) (elOff (isub .i64 ((k + 1 : Nat) : Int) 1) 1) [.int .i64 0] := by rw [o2]; exact cCells_vi (by omega)
                  refine ⟨cr1, cc1, cr2, cc2, ?_⟩
                  refine ⟨by kernel_rfl, ?_⟩
                  have v1 : celI (t.map vi) (elOff ((k + 1 : Nat) : Int) 1 + 0) = t.getD (k + 1) 0 := by rw [o1, Nat.add_zero, celI_vi]
                  have v2 : celI (t.map vi) (elOff (isub .i64 ((k + 1 : Nat) : Int) 1) 1 + 0) = t.getD k 0 := by rw [o2, Nat.add_zero, celI_vi]
                  refine ⟨fun h4 => ?_, fun h4 => ?_⟩
                  · have h4' : ilt (celI (t.map vi) (elOff ((k + 1 : Nat) : Int) 1 + 0)) (celI (t.map vi) (elOff (isub .i64 ((k + 1 : Nat) : Int) 1) 1 + 0)) = true := h4
                    rw [v1, v2] at h4'
                    simp only [insIn, h4', if_true] at hk3
                    refine ⟨cr2, cc2, cr1, cc1, cr1, ?_⟩
                    refine ⟨by rw [o1]; simp [cFit]; omega, ?_⟩
                    refine ⟨cr2, ?_⟩
                    refine ⟨by rw [o2]; simp [cFit, setV]; omega, ?_⟩
                    refine ⟨by kernel_rfl, ?_⟩
                    refine ⟨⟨(k, swp t (k + 1)), by simp; omega, by rw [swp_len]; exact hk2, hk3⟩, ⟨fun x => x, rfl, rfl, ⟨by kernel_rfl, by kernel_rfl, ?_, trivial⟩, ⟨?_, trivial⟩, rfl, rfl, rfl⟩, by simp⟩
                    · simp [lk_cons, SV.ren, SE.ren, SC.ren, sval]
                      exact e2
                    · have hrow : setV (setV (t.map vi) (elOff ((k + 1 : Nat) : Int) 1) [vi (celI (t.map vi) (elOff (isub .i64 ((k + 1 : Nat) : Int) 1) 1 + 0))]) (elOff (isub .i64 ((k + 1 : Nat) : Int) 1) 1) [vi (celI (t.map vi) (elOff ((k + 1 : Nat) : Int) 1 + 0))] = (swp t (k + 1)).map vi := by
                        rw [v1, v2, o1, o2, setV_vi _ (by omega), setV_vi _ (by simp; omega)]
                        rfl
                      exact congrArg (fun q => some (Atom.row 3 1 m q)) hrow
                  · have h4' : ilt (celI (t.map vi) (elOff ((k + 1 : Nat) : Int) 1 + 0)) (celI (t.map vi) (elOff (isub .i64 ((k + 1 : Nat) : Int) 1) 1 + 0)) = false := h4
                    rw [v1, v2] at h4'
                    simp only [insIn, h4', Bool.false_eq_true, if_false] at hk3
                    have hf : m - i = (m - (i + 1)) + 1 := by omega
                    rw [hf] at hs2
                    simp only [srtOut] at hs2
                    rw [← hk3] at hs2
                    refine ⟨⟨(i + 1, t), by simp, hk2, by simpa using hs2⟩, ⟨fun x => x, rfl, rfl, ⟨by kernel_rfl, ?_, trivial⟩, ⟨by kernel_rfl, trivial⟩, rfl, rfl, rfl⟩, by simp; omega⟩
                    simp [lk_cons, SV.ren, SE.ren, SC.ren, sval, e1]
                · have hk0 : k = 0 := by simp [ilt] at h3; omega
                  subst hk0
                  simp only [insIn] at hk3
                  have hf : m - i = (m - (i + 1)) + 1 := by omega
                  rw [hf] at hs2
                  simp only [srtOut] at hs2
                  rw [← hk3] at hs2
                  refine ⟨by kernel_rfl, ?_⟩
                  refine ⟨⟨(i + 1, t), by simp, hk2, by simpa using hs2⟩, ⟨fun x => x, rfl, rfl, ⟨by kernel_rfl, ?_, trivial⟩, ⟨by kernel_rfl, trivial⟩, rfl, rfl, rfl⟩, by simp; omega⟩
                  simp [lk_cons, SV.ren, SE.ren, SC.ren, sval, e1]
            · have hf : m - i = 0 := by simp [ilt] at h2; omega
              rw [hf] at hs2
              simp only [srtOut] at hs2
              subst hs2
              exact ⟨fun x => x, by kernel_rfl, by kernel_rfl, ⟨by kernel_rfl, trivial⟩, ⟨by kernel_rfl, trivial⟩, by kernel_rfl, by kernel_rfl, by kernel_rfl⟩
      · cases hg
    · cases hg
def sp22 : Specs := consSp 21 sortedG sp21
theorem sp22_ok : SpecsOK Try.prog sp22 := specs_cons sorted_ok sp21_ok
end Go.Proofs.Ytemoagpahhdoeaa
