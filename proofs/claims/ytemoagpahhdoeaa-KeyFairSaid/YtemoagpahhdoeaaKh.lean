/- KeyFair: the law, walked: its facts. No condition. -/
import Derived.Test.YtemoagpahhdoeaaKg
import Derived.Test.YtemoagpahhdoeaaKa
namespace Go.Proofs.Ytemoagpahhdoeaa
open Go.Sy
open Go.RowKit (Below)
set_option linter.unusedSimpArgs false
set_option linter.unusedVariables false
set_option maxRecDepth 100000

theorem celB_bo (l : List Bool) (m : Nat) : celB (l.map Value.bool) m = l.getD m false := by
  unfold celB
  rw [List.getElem?_map, List.getD]
  cases l[m]? <;> rfl
theorem cCells_bo {l : List Bool} {m : Nat} (h : m < l.length) : cCells (l.map Value.bool) m [.bool false] := by
  intro j c hj
  have hlt : j < 1 := by
    have := (List.getElem?_eq_some_iff.1 hj).1
    simpa [rdR] using this
  have : j = 0 := by omega
  subst this
  simp [rdR] at hj
  subst hj
  refine ⟨_, rfl, ?_⟩
  rw [celB_bo]
  simp [List.getElem?_eq_getElem h]
theorem setV_bo {l : List Bool} {m : Nat} (v : Bool) (h : m < l.length) : setV (l.map Value.bool) m [.bool v] = (l.set m v).map Value.bool := by
  apply List.ext_getElem?
  intro j
  rw [setV_get (by simp; omega)]
  simp only [List.getElem?_map, List.getElem?_set, List.length_cons, List.length_nil]
  by_cases e : m = j
  · subst e
    simp [h]
  · rw [if_neg (by omega), if_neg e]

def mkS (n : Nat) (xs : List Int) : List Bool := (List.range n).map fun (i : Nat) => decide ((i : Int) ∈ xs)
theorem mkS_len (n : Nat) (xs : List Int) : (mkS n xs).length = n := by simp [mkS]
theorem mkS_get {n : Nat} {xs : List Int} {x : Int} (h : 0 ≤ x) (h' : x < n) : (mkS n xs).getD x.toNat false = decide (x ∈ xs) := by
  have : x.toNat < n := by omega
  simp [mkS, this, Int.toNat_of_nonneg h]
theorem mkS_set {n : Nat} {xs : List Int} {x : Int} (h : 0 ≤ x) (h' : x < n) : (mkS n xs).set x.toNat true = mkS n (xs ++ [x]) := by
  apply List.ext_getElem?
  intro j
  rw [List.getElem?_set]
  by_cases hj : j < n
  · by_cases e : x.toNat = j
    · subst e
      simp [mkS, hj, Int.toNat_of_nonneg h]
    · have e2 : ¬ (j : Int) = x := by omega
      simp [mkS, hj, e, e2]
  · simp [mkS, hj]
    omega
theorem mkS_nil (n : Nat) : (mkS n []).map Value.bool = List.replicate n (.bool false) := by
  apply List.ext_getElem?
  intro j
  by_cases hj : j < n <;> simp [mkS, hj, List.getElem?_replicate]
theorem getD_take {S : List Int} {i : Nat} (h : i < S.length) : S.take (i + 1) = S.take i ++ [S.getD i 0] := by
  rw [List.take_add_one]
  simp [List.getElem?_eq_getElem h]

/-- What the law asks of a side. -/
structure SideOK (n : Nat) (B S : List Int) : Prop where
  lo : ∀ i, i < S.length → 0 ≤ S.getD i 0
  hi : ∀ i, i < S.length → S.getD i 0 < n
  up : ∀ i, i + 1 < S.length → S.getD i 0 < S.getD (i + 1) 0
  new : ∀ i, i < S.length → S.getD i 0 ∉ B ++ S.take i

theorem take_lt {S : List Int} (up : ∀ i, i + 1 < S.length → S.getD i 0 < S.getD (i + 1) 0) : ∀ k i, i < k → k < S.length → S.getD i 0 < S.getD k 0
  | 0, i, h, _ => by omega
  | k + 1, i, h, h' => by
    have h1 := up k (by omega)
    by_cases e : i = k
    · subst e; exact h1
    · exact Int.lt_trans (take_lt up k i (by omega) (by omega)) h1
theorem sideOK_of {n : Nat} {B l : List Int} (h0 : 0 < l.length) (hb : ∀ x ∈ l, 0 ≤ x ∧ x < n) (hd : Dif l) (hB : ∀ x ∈ l, x ∉ B) : SideOK n B (sortM l) := by
  have hs := sortM_shuf l h0
  have hr := sortM_rises l h0
  have hl := sortM_len l
  have hd' := shuf_dif hs hd
  have up : ∀ i, i + 1 < (sortM l).length → (sortM l).getD i 0 < (sortM l).getD (i + 1) 0 := fun i hi => by
    have h1 := hr i (by omega)
    have h2 : (sortM l).getD i 0 ≠ (sortM l).getD (i + 1) 0 := fun e => by
      have := hd' i (i + 1) (by omega) hi e
      omega
    omega
  refine ⟨fun i hi => (hb _ (shuf_mem hs (getD_mem hi))).1, fun i hi => (hb _ (shuf_mem hs (getD_mem hi))).2, up, fun i hi hm => ?_⟩
  rcases List.mem_append.1 hm with h | h
  · exact hB _ (shuf_mem hs (getD_mem hi)) h
  · obtain ⟨j, hj, he⟩ := mem_getD h
    rw [List.length_take] at hj
    have e : ((sortM l).take i).getD j 0 = (sortM l).getD j 0 := by
      simp only [List.getD_eq_getElem?_getD, List.getElem?_take]
      rw [if_pos (by omega)]
    rw [e] at he
    have := take_lt up i j (by omega) hi
    omega

structure Fair (n : Nat) (A B : List Int) : Prop where
  a : SideOK n [] A
  b : SideOK n A B
  la : leastM n ≤ A.length
  lb : leastM n ≤ B.length
  sum : A.length + B.length = n
theorem part_fair {l : List Key} (hn : l.length ≤ 64) (h2 : 2 ≤ l.length) : Fair l.length (sortM (partM l).pa) (sortM (partM l).pb) := by
  obtain ⟨ba, bb, da, db, dis, rem, cnt, la, lb⟩ := inv_part hn h2
  obtain ⟨b1, b2, b3⟩ := seed_bound h2
  obtain ⟨L1, L2⟩ := least_ok l.length (by omega) h2
  have hz : (partM l).lf = 0 := by
    rw [rem]; simp only [remM]; split <;> split <;> omega
  have la' : 0 < (partM l).pa.length := by omega
  have lb' : 0 < (partM l).pb.length := by omega
  refine ⟨sideOK_of la' (fun x hx => ⟨(ba x hx).1, (ba x hx).2.1⟩) da (by simp), sideOK_of lb' (fun x hx => ⟨(bb x hx).1, (bb x hx).2.1⟩) db (fun x hx hm => dis x (shuf_mem (sortM_shuf _ la') hm) hx), ?_, ?_, ?_⟩
  · rw [sortM_len]; omega
  · rw [sortM_len]; omega
  · rw [sortM_len, sortM_len]; omega
end Go.Proofs.Ytemoagpahhdoeaa
