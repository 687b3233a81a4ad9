/- What sorting does, in plain words: the same places, rising. No condition. -/
import Derived.Test.YtemoagpahhdoeaaK9
namespace Go.Proofs.Ytemoagpahhdoeaa
open Go.Sy
set_option linter.unusedSimpArgs false
set_option linter.unusedVariables false

theorem swp_get {l : List Int} {k : Nat} (h : k + 1 < l.length) (j : Nat) : (swp l (k + 1)).getD j 0 = if j = k then l.getD (k + 1) 0 else if j = k + 1 then l.getD k 0 else l.getD j 0 := by
  simp only [swp, Nat.add_sub_cancel, List.getD_eq_getElem?_getD, List.getElem?_set, List.length_set]
  by_cases e1 : j = k
  · subst e1
    have : j < l.length := by omega
    simp [this]
  · by_cases e2 : j = k + 1
    · subst e2
      have h1 : ¬ k = k + 1 := by omega
      simp [h, h1]
    · have h1 : ¬ k = j := fun q => e1 q.symm
      have h2 : ¬ k + 1 = j := fun q => e2 q.symm
      simp [e1, e2, h1, h2]

/-- The same entries, at other places. -/
def Shuf (l l' : List Int) : Prop := l'.length = l.length ∧ ∃ f : Nat → Nat, (∀ j, j < l.length → f j < l.length) ∧ (∀ i j, i < l.length → j < l.length → f i = f j → i = j) ∧ ∀ j, j < l.length → l'.getD j 0 = l.getD (f j) 0
theorem shuf_refl (l : List Int) : Shuf l l := ⟨rfl, fun j => j, fun _ h => h, fun _ _ _ _ h => h, fun _ _ => rfl⟩
theorem shuf_trans {a b c : List Int} (h : Shuf a b) (k : Shuf b c) : Shuf a c := by
  obtain ⟨h1, f, f1, f2, f3⟩ := h
  obtain ⟨k1, g, g1, g2, g3⟩ := k
  rw [h1] at g1 g2 g3
  exact ⟨k1.trans h1, fun j => f (g j), fun j hj => f1 _ (g1 j hj), fun i j hi hj he => g2 i j hi hj (f2 _ _ (g1 i hi) (g1 j hj) he), fun j hj => (g3 j hj).trans (f3 _ (g1 j hj))⟩
theorem shuf_swp {l : List Int} {k : Nat} (h : k + 1 < l.length) : Shuf l (swp l (k + 1)) := by
  refine ⟨swp_len l _, fun j => if j = k then k + 1 else if j = k + 1 then k else j, fun j hj => ?_, fun i j hi hj he => ?_, fun j hj => ?_⟩
  · simp only; split
    · exact h
    · split <;> omega
  · simp only at he
    split at he <;> split at he <;> (try split at he) <;> (try split at he) <;> omega
  · rw [swp_get h]
    simp only
    split
    · rfl
    · split <;> rfl
theorem shuf_insIn : ∀ (k : Nat) (l : List Int), k < l.length → Shuf l (insIn k l)
  | 0, l, _ => shuf_refl l
  | k + 1, l, h => by
    simp only [insIn]
    split
    · exact shuf_trans (shuf_swp h) (shuf_insIn k _ (by rw [swp_len]; omega))
    · exact shuf_refl l
theorem shuf_srtOut : ∀ (f i : Nat) (l : List Int), i + f ≤ l.length → Shuf l (srtOut f i l)
  | 0, i, l, _ => shuf_refl l
  | f + 1, i, l, h => by
    simp only [srtOut]
    exact shuf_trans (shuf_insIn i l (by omega)) (shuf_srtOut f (i + 1) _ (by rw [insIn_len]; omega))

theorem insIn_rises : ∀ (k i : Nat) (l : List Int), k ≤ i → i < l.length → (∀ j, j + 1 ≤ i → j + 1 ≠ k → l.getD j 0 ≤ l.getD (j + 1) 0) → (1 ≤ k → k + 1 ≤ i → l.getD (k - 1) 0 ≤ l.getD (k + 1) 0) → ∀ j, j + 1 ≤ i → (insIn k l).getD j 0 ≤ (insIn k l).getD (j + 1) 0
  | 0, i, l, _, _, h1, _ => fun j hj => h1 j hj (by omega)
  | k + 1, i, l, hk, hi, h1, h2 => by
    simp only [insIn]
    split
    · rename_i hlt
      have hlt : l.getD (k + 1) 0 < l.getD k 0 := by simpa [ilt] using hlt
      refine insIn_rises k i _ (by omega) (by rw [swp_len]; exact hi) (fun j hj hne => ?_) (fun hk1 hk2 => ?_)
      · rw [swp_get (by omega), swp_get (by omega)]
        by_cases e1 : j = k
        · subst e1
          have e5 : ¬ j + 1 = j := by omega
          simp only [e5, if_true, if_false]
          exact Int.le_of_lt hlt
        · by_cases e2 : j = k + 1
          · subst e2
            have := h2 (by omega) (by omega)
            rw [Nat.add_sub_cancel] at this
            have e5 : ¬ k + 1 = k := by omega
            have e6 : ¬ k + 1 + 1 = k := by omega
            have e7 : ¬ k + 1 + 1 = k + 1 := by omega
            simp only [e5, e6, e7, if_true, if_false]
            exact this
          · have e3 : ¬ j + 1 = k := hne
            have e4 : ¬ j + 1 = k + 1 := by omega
            simp only [e1, e2, e3, e4, if_false]
            exact h1 j hj (by omega)
      · rw [swp_get (by omega), swp_get (by omega)]
        have e1 : ¬ k - 1 = k := by omega
        have e2 : ¬ k - 1 = k + 1 := by omega
        have e3 : ¬ k + 1 = k := by omega
        simp only [e1, e2, e3, if_false, if_true]
        have := h1 (k - 1) (by omega) (by omega)
        rwa [show k - 1 + 1 = k by omega] at this
    · rename_i hge
      have hge : l.getD k 0 ≤ l.getD (k + 1) 0 := by
        simp [ilt] at hge
        simpa using hge
      intro j hj
      by_cases e : j = k
      · subst e; exact hge
      · exact h1 j hj (by omega)
theorem srtOut_rises : ∀ (f i : Nat) (l : List Int), i + f ≤ l.length → (∀ j, j + 1 < i → l.getD j 0 ≤ l.getD (j + 1) 0) → ∀ j, j + 1 < i + f → (srtOut f i l).getD j 0 ≤ (srtOut f i l).getD (j + 1) 0
  | 0, i, l, _, h1 => fun j hj => h1 j (by omega)
  | f + 1, i, l, h, h1 => by
    simp only [srtOut]
    intro j hj
    refine srtOut_rises f (i + 1) _ (by rw [insIn_len]; omega) (fun j hj => ?_) j (by omega)
    exact insIn_rises i i l (Nat.le_refl _) (by omega) (fun j hj hne => h1 j (by omega)) (fun _ h => by omega) j (by omega)

theorem sortM_shuf (l : List Int) (h : 0 < l.length) : Shuf l (sortM l) := shuf_srtOut _ _ _ (by omega)
theorem sortM_rises (l : List Int) (h : 0 < l.length) : ∀ j, j + 1 < l.length → (sortM l).getD j 0 ≤ (sortM l).getD (j + 1) 0 := fun j hj => srtOut_rises (l.length - 1) 1 l (by omega) (fun j hj => by omega) j (by omega)
theorem sortM_len (l : List Int) : (sortM l).length = l.length := srtOut_len _ _ _

theorem getD_mem {l : List Int} {j : Nat} (h : j < l.length) : l.getD j 0 ∈ l := by
  simp [List.getElem?_eq_getElem h]
theorem mem_getD {l : List Int} {x : Int} (h : x ∈ l) : ∃ j, j < l.length ∧ l.getD j 0 = x := by
  obtain ⟨j, hj, rfl⟩ := List.getElem_of_mem h
  exact ⟨j, hj, by simp [List.getElem?_eq_getElem hj]⟩
theorem shuf_mem {l l' : List Int} (h : Shuf l l') {x : Int} (hx : x ∈ l') : x ∈ l := by
  obtain ⟨h1, f, f1, f2, f3⟩ := h
  obtain ⟨j, hj, rfl⟩ := mem_getD hx
  rw [h1] at hj
  rw [f3 j hj]
  exact getD_mem (f1 j hj)
/-- Entries differ from place to place. -/
def Dif (l : List Int) : Prop := ∀ i j, i < l.length → j < l.length → l.getD i 0 = l.getD j 0 → i = j
theorem shuf_dif {l l' : List Int} (h : Shuf l l') (hd : Dif l) : Dif l' := by
  obtain ⟨h1, f, f1, f2, f3⟩ := h
  intro i j hi hj he
  rw [h1] at hi hj
  rw [f3 i hi, f3 j hj] at he
  exact f2 i j hi hj (hd _ _ (f1 i hi) (f1 j hj) he)
theorem dif_snoc {l : List Int} {x : Int} (h : Dif l) (hx : x ∉ l) : Dif (l ++ [x]) := by
  have g : ∀ i, i < l.length → (l ++ [x]).getD i 0 = l.getD i 0 := fun i hi => by simp [List.getElem?_append_left hi]
  have gx : (l ++ [x]).getD l.length 0 = x := by simp
  intro i j hi hj he
  simp only [List.length_append, List.length_cons, List.length_nil] at hi hj
  by_cases e1 : i < l.length
  · by_cases e2 : j < l.length
    · rw [g i e1, g j e2] at he
      exact h i j e1 e2 he
    · have : j = l.length := by omega
      subst this
      rw [g i e1, gx] at he
      exact absurd (he ▸ getD_mem e1) hx
  · have : i = l.length := by omega
    subst this
    by_cases e2 : j < l.length
    · rw [g j e2, gx] at he
      exact absurd (he ▸ getD_mem e2) hx
    · omega
end Go.Proofs.Ytemoagpahhdoeaa
