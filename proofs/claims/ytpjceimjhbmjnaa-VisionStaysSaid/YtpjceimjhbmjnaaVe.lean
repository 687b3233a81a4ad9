/- What is done with a greater number changes nothing that a snapshot sees: in plain words. No condition. -/
import Derived.Test.YtpjceimjhbmjnaaVb
namespace Go.Proofs.Ytpjceimjhbmjnaa
open Go.Sy
set_option linter.unusedSimpArgs false
set_option linter.unusedVariables false
set_option maxRecDepth 100000

/-- One that is open is done, with a number. -/
def fillF (l : List (Int × Int)) (i : Nat) (v : Int) : List (Int × Int) := l.set i (fid l i, v)
theorem fillF_len (l : List (Int × Int)) (i : Nat) (v : Int) : (fillF l i v).length = l.length := by simp [fillF]
theorem fillF_get {l : List (Int × Int)} {i : Nat} {v : Int} (hi : i < l.length) (j : Nat) : (fillF l i v).getD j (0, 0) = if j = i then (fid l i, v) else l.getD j (0, 0) := by
  unfold fillF
  rw [List.getD_eq_getElem?_getD, List.getElem?_set]
  by_cases h : i = j
  · subst h; simp [hi]
  · rw [if_neg h, if_neg (fun q => h q.symm), List.getD_eq_getElem?_getD]
theorem fillF_fid {l : List (Int × Int)} {i : Nat} {v : Int} (hi : i < l.length) (j : Nat) : fid (fillF l i v) j = fid l j := by
  unfold fid
  rw [fillF_get hi]
  by_cases h : j = i
  · rw [if_pos h, h]; rfl
  · rw [if_neg h]
theorem fillF_fnm {l : List (Int × Int)} {i : Nat} {v : Int} (hi : i < l.length) (j : Nat) : fnm (fillF l i v) j = if j = i then v else fnm l j := by
  unfold fnm
  rw [fillF_get hi]
  by_cases h : j = i
  · rw [if_pos h, if_pos h]
  · rw [if_neg h, if_neg h]
theorem fillF_ok {first : Int} {l : List (Int × Int)} {i : Nat} {v : Int} (hi : i < l.length) (hok : okF first l = true) (hv : ∀ j, fnm l j < v) : okF first (fillF l i v) = true := by
  obtain ⟨h1, h2, h3⟩ := okF_iff.1 hok
  refine okF_iff.2 ⟨h1, by rw [fillF_len]; exact h2, fun j hj => ?_⟩
  rw [fillF_len] at hj
  obtain ⟨k1, k2, k3⟩ := okAt_iff.1 (h3 j hj)
  refine okAt_iff.2 ⟨by rw [fillF_fid hi]; exact k1, by rw [fillF_fid hi, fillF_fid hi]; exact k2, fun k hk h0 => ?_⟩
  rw [fillF_fnm hi] at h0 ⊢
  rw [fillF_fnm hi]
  have a := hv k
  have b := hv j
  by_cases e : j = i
  · rw [if_pos e, if_neg (by omega)]; omega
  · rw [if_neg e] at h0 ⊢
    by_cases e2 : k = i
    · rw [if_pos e2]; omega
    · rw [if_neg e2]; exact k3 k hk h0
theorem fillF_lk {v x : Int} : ∀ {l : List (Int × Int)} {i : Nat}, i < l.length → (∀ k, k < i → fid l k ≠ fid l i) → lkF (fillF l i v) x = if fid l i = x then some v else lkF l x
  | [], i, h, _ => by simp at h
  | p :: l, 0, _, _ => by
    simp only [fillF, List.set_cons_zero, lkF]
    have : fid (p :: l) 0 = p.1 := by simp [fid]
    rw [this]
    split <;> rfl
  | p :: l, i + 1, h, hd => by
    have e1 : fid (p :: l) (i + 1) = fid l i := by simp [fid]
    have e2 : fillF (p :: l) (i + 1) v = p :: fillF l i v := by simp [fillF, e1]
    have h0 : p.1 ≠ fid l i := by have := hd 0 (by omega); rw [e1] at this; simpa [fid] using this
    have ih := fillF_lk (v := v) (x := x) (l := l) (i := i) (by simpa using h) (fun k hk => by have := hd (k + 1) (by omega); rw [e1] at this; simpa [fid] using this)
    rw [e2, e1]
    simp only [lkF, ih]
    by_cases e : p.1 = x
    · rw [if_pos e, if_neg (fun q => h0 (e.trans q.symm))]; rw [if_pos e]
    · rw [if_neg e, if_neg e]
theorem fillF_cnt {first : Int} {l : List (Int × Int)} {i : Nat} {v snap : Int} (hi : i < l.length) (hok : okF first l = true) (h0 : fnm l i = 0) (hv : snap < v) (hp : 0 < v) (x : Int) : cnt ⟨0, true, snap⟩ first (fillF l i v) x = cnt ⟨0, true, snap⟩ first l x := by
  have hs := sort_of hok
  have hne : ∀ k, k < i → fid l k ≠ fid l i := fun k hk => by have := hs k i hk hi; omega
  have hlk := fillF_lk (v := v) (x := x) hi hne
  have hl0 : lkF l (fid l i) = some 0 := by rw [← h0]; exact lk_of_fid hi rfl hne
  have hlow : first ≤ fid l i := (okAt_iff.1 ((okF_iff.1 hok).2.2 i hi)).1
  unfold cnt
  simp only [if_true]
  by_cases e : fid l i = x
  · subst e
    have hf : ilt (fid l i) first = false := by simp [ilt]; omega
    have g1 : ilt 0 (0 : Int) = false := by simp [ilt]
    have g2 : ile v snap = false := by simp [ile]; omega
    rw [if_pos rfl] at hlk
    simp [fateD, fateN, hf, hlk, hl0, g1, g2]
  · rw [if_neg e] at hlk
    simp only [fateD, fateN, hlk]
theorem fillF_flat {l : List (Int × Int)} {i : Nat} {v : Int} (hi : i < l.length) : setV (flat l) (i * 2 + 1) [vu v] = flat (fillF l i v) := by
  apply List.ext_getElem?
  intro q
  rw [setV_get (by rw [flat_len]; simp; omega)]
  simp only [List.length_cons, List.length_nil]
  by_cases hq : q < l.length * 2
  · rw [flat_get (fillF l i v) (by rw [fillF_len]; exact hq)]
    by_cases e : q = i * 2 + 1
    · subst e
      rw [if_pos (by omega), if_neg (by omega), show (i * 2 + 1) / 2 = i by omega, fillF_fnm hi, if_pos rfl]
      simp
    · rw [if_neg (by omega), flat_get _ hq, fillF_fid hi]
      by_cases h : q % 2 = 0
      · rw [if_pos h, if_pos h]
      · rw [if_neg h, if_neg h, fillF_fnm hi, if_neg (by omega)]
  · rw [if_neg (by omega), List.getElem?_eq_none (by rw [flat_len]; omega), List.getElem?_eq_none (by rw [flat_len, fillF_len]; omega)]
theorem fillF_wf {l : List (Int × Int)} {i : Nat} {v : Int} (hi : i < l.length) (hw : WfL l) (hv : 0 ≤ v ∧ v < 18446744073709551616) : WfL (fillF l i v) := by
  intro j
  rw [fillF_get hi]
  by_cases h : j = i
  · rw [if_pos h]
    have := hw i
    exact ⟨this.1, this.2.1, hv.1, hv.2⟩
  · rw [if_neg h]; exact hw j

/-- What holds behind i of the steps. -/
structure Stay (first snap : Int) (l : List (Int × Int)) (i : Nat) (m : List (Int × Int)) (top : Int) : Prop where
  len : m.length = l.length
  wf : WfL m
  ok : okF first m = true
  num : ∀ j, fnm m j ≤ top
  sn : snap ≤ top
  lo : 0 ≤ top
  hi : top ≤ 9223372036854775808 + i
  cnt : ∀ x, cnt ⟨0, true, snap⟩ first m x = cnt ⟨0, true, snap⟩ first l x
theorem Stay.step0 {first snap : Int} {l m : List (Int × Int)} {i : Nat} {top : Int} (h : Stay first snap l i m top) : Stay first snap l (i + 1) m top :=
  ⟨h.len, h.wf, h.ok, h.num, h.sn, h.lo, by have := h.hi; omega, h.cnt⟩
theorem Stay.step1 {first snap : Int} {l m : List (Int × Int)} {i : Nat} {top : Int} (h : Stay first snap l i m top) (hi : i < l.length) (hl : i ≤ 1000) (h0 : fnm m i = 0) : Stay first snap l (i + 1) (fillF m i (top + 1)) (top + 1) := by
  have hi' : i < m.length := by rw [h.len]; exact hi
  have h1 := h.sn
  have h2 := h.lo
  have h3 := h.hi
  refine ⟨by rw [fillF_len, h.len], fillF_wf hi' h.wf (by omega), fillF_ok hi' h.ok (fun j => by have := h.num j; omega), fun j => ?_, by omega, by omega, by omega, fun x => ?_⟩
  · rw [fillF_fnm hi']
    split
    · omega
    · have := h.num j; omega
  · rw [fillF_cnt hi' h.ok h0 (by omega) (by omega), h.cnt]
theorem Stay.same {first snap : Int} {l m : List (Int × Int)} {i : Nat} {top : Int} (h : Stay first snap l i m top) (hok : okF first l = true) (t : Tup) : seenV ⟨0, true, snap⟩ first m t = seenV ⟨0, true, snap⟩ first l t ∧ errE first m t = errE first l t := by
  constructor
  · unfold seenV seeB
    rw [h.ok, hok, h.cnt, h.cnt]
  · unfold errE
    rw [h.ok, hok]

def topM (l : List (Int × Int)) (snap : Int) : Nat → Int
  | 0 => snap
  | i + 1 => mx (topM l snap i) (fnm l i)
theorem topM_ge (l : List (Int × Int)) (snap : Int) : ∀ i, snap ≤ topM l snap i ∧ ∀ j, j < i → fnm l j ≤ topM l snap i
  | 0 => ⟨Int.le_refl _, fun j hj => by omega⟩
  | i + 1 => by
    obtain ⟨h1, h2⟩ := topM_ge l snap i
    have hm : topM l snap i ≤ mx (topM l snap i) (fnm l i) ∧ fnm l i ≤ mx (topM l snap i) (fnm l i) := by unfold mx; split <;> omega
    refine ⟨by simp only [topM]; omega, fun j hj => ?_⟩
    simp only [topM]
    by_cases e : j = i
    · rw [e]; exact hm.2
    · have := h2 j (by omega); omega
theorem stay_start {first snap : Int} {l : List (Int × Int)} (hok : okF first l = true) (hw : WfL l) (hs : 0 ≤ snap) (ht : topM l snap l.length ≤ 9223372036854775808) : Stay first snap l 0 l (topM l snap l.length) := by
  obtain ⟨h1, h2⟩ := topM_ge l snap l.length
  refine ⟨rfl, hw, hok, fun j => ?_, h1, by omega, by omega, fun _ => rfl⟩
  by_cases h : j < l.length
  · exact h2 j h
  · have : fnm l j = 0 := by unfold fnm; rw [List.getD_eq_getElem?_getD, List.getElem?_eq_none (by omega)]; rfl
    omega
theorem add_top {top : Int} (h1 : 0 ≤ top) (h2 : top ≤ 9223372036854776808) : iadd .u64 top 1 = top + 1 := by
  unfold iadd IntKind.wrap
  simp [IntKind.bits, IntKind.signed]
  omega
end Go.Proofs.Ytpjceimjhbmjnaa
