/- The program's functions, told to callers whose list of fates is their own; a list of fates, copied. No condition. -/
import Derived.Test.YtpjceimjhbmjnaaV7
import Derived.DataElems
namespace Go.Proofs.Ytpjceimjhbmjnaa
open Go.Sy
set_option linter.unusedSimpArgs false
set_option linter.unusedVariables false
set_option maxRecDepth 100000

def fateR (xs : List Value) (i : Nat) : Int × Int := (celI xs (i * 2 + 0), celI xs (i * 2 + 1))
def fatesR (xs : List Value) (n : Nat) : List (Int × Int) := (List.range n).map (fateR xs)
def FatesR (xs : List Value) (n : Nat) : Prop := ∀ i : Nat, i < n → (∀ j, j < 2 → xs[i * 2 + j]? = some (vu (celI xs (i * 2 + j)))) ∧ wfF (fateR xs i)
theorem row_fates {w : World} {g : Nat} {xs : List Value} {n : Nat} (hc : ∀ m v, xs[m]? = some v → w.cell? ⟨g, m, none⟩ = some v) (h : FatesR xs n) : FatesF (fun k => w.heap[k]?) (some ⟨g, 0, none⟩) n ∧ fatesOf (fun k => w.heap[k]?) (some ⟨g, 0, none⟩) n = fatesR xs n := by
  have cell : ∀ i, i < n → ∀ j, j < 2 → Hp.cell (fun k => w.heap[k]?) ((elAt (some ⟨g, 0, none⟩) i 2).add j) = some (vu (celI xs (i * 2 + j))) := fun i hi j hj => by
    have := hc _ _ ((h i hi).1 j hj)
    have e : (elAt (some ⟨g, 0, none⟩) i 2).add j = ⟨g, i * 2 + j, none⟩ := by
      simp [elAt, addr_add]
    rw [e]
    unfold World.cell? at this
    unfold Hp.cell
    exact this
  have int : ∀ i, i < n → ∀ j, j < 2 → Hp.int (fun k => w.heap[k]?) ((elAt (some ⟨g, 0, none⟩) i 2).add j) = celI xs (i * 2 + j) := fun i hi j hj => by
    unfold Hp.int
    rw [cell i hi j hj]
    rfl
  have eat : ∀ i, i < n → fateAt (fun k => w.heap[k]?) (some ⟨g, 0, none⟩) i = fateR xs i := fun i hi => by
    unfold fateAt fateR
    rw [int i hi 0 (by omega), int i hi 1 (by omega)]
  refine ⟨fun i hi => ⟨rfl, cRead_of (fun j hj => by rw [cell i hi j hj, int i hi j hj]; rfl), by rw [eat i hi]; exact (h i hi).2⟩, ?_⟩
  unfold fatesOf fatesR
  exact List.map_congr_left (fun i hi => eat i (List.mem_range.1 hi))

/-! ### Told to callers -/
abbrev Pick := List SV → Option (SC × (List (Int × Int) → SV))
def lendG (pick : Pick) : SpecG := fun F atm _ vs => match pick vs with
  | some (.val (.slice A n _), k) => some (.one ⟨.p (FatesF F A n), k (fatesOf F A n), [], []⟩)
  | some (.sli y n, k) => match atm y with
    | some (.row 44 2 m xs) => some (.one ⟨.p (m = n ∧ FatesR xs n), k (fatesR xs n), [], [y]⟩)
    | _ => none
  | _ => none
def _root_.Go.Sy.SC.conc (ρ : Env) (c : SC) : SC := .val (c.den ρ)
def _root_.Go.Sy.SE.conc (ρ : Env) : SE → SE
  | .c x => .c (x.conc ρ)
  | .agg cs => .agg (cs.map (SC.conc ρ))
def _root_.Go.Sy.SV.conc (ρ : Env) : SV → SV
  | .e u => .e (u.conc ρ)
  | .tup l => .tup (l.map (SE.conc ρ))
theorem _root_.Go.Sy.SE.conc_den (ρ ρ' : Env) (u : SE) : (u.conc ρ).den ρ' = u.den ρ ∧ (u.conc ρ).ok ρ' := by
  cases u with
  | c x => exact ⟨rfl, fun c hc => by simp [SE.conc, SE.cells] at hc; subst hc; trivial⟩
  | agg cs =>
    refine ⟨?_, fun c hc => ?_⟩
    · simp only [SE.conc, SE.den, List.map_map]
      congr 1
    · simp only [SE.conc, SE.cells, List.mem_map] at hc
      obtain ⟨d, _, rfl⟩ := hc
      trivial
theorem _root_.Go.Sy.SV.conc_den (ρ ρ' : Env) (v : SV) : (v.conc ρ).den ρ' = v.den ρ ∧ (v.conc ρ).ok ρ' := by
  cases v with
  | e u => exact SE.conc_den ρ ρ' u
  | tup l =>
    refine ⟨?_, fun u hu => ?_⟩
    · simp only [SV.conc, SV.den, List.map_map]
      congr 2
      exact List.map_congr_left (fun u _ => (SE.conc_den ρ ρ' u).1)
    · obtain ⟨d, _, rfl⟩ := List.mem_map.1 hu
      exact (SE.conc_den ρ ρ' d).2

theorem lend_ok {f : FuncId} {g : PureG} {pick : Pick} (hg : SpecOK Try.prog f (pureS g)) (hv : ∀ vs L k l, pick vs = some (L, k) → (k l).vals = true)
    (hp : ∀ F ρ vs L k A n c, pick vs = some (L, k) → L.den ρ = .slice A n c → g F (vs.map (SV.conc ρ)) = some (.p (FatesF F A n), k (fatesOf F A n))) : SpecOK Try.prog f (lendG pick) := by
  have main : ∀ {F : Hp} {atm : Nat → Option Atom} {ρ : Env} {h : Nat → Hp} {w : World} (hs : HSat F atm ρ h w) {vs : List SV} {L : SC} {k : List (Int × Int) → SV} {A : Option Addr} {n c : Nat}, pick vs = some (L, k) → L.den ρ = .slice A n c → FatesF (fun k => w.heap[k]?) A n →
      Calls Try.prog f (vs.map (SV.den ρ)).toArray w fun e w' => ∃ ρ' h', e = .returned ((k (fatesOf (fun k => w.heap[k]?) A n)).den ρ') ∧ Ext ρ ρ' ∧ (k (fatesOf (fun k => w.heap[k]?) A n)).ok ρ' ∧ HSat F (updA atm []) ρ' h' w' ∧ Strm w w' := by
    intro F atm ρ h w hs vs L k A n c hpk hL hK
    have hq := hp (fun k => w.heap[k]?) ρ vs L k A n c hpk hL
    have h0 : HSat (fun k => w.heap[k]?) (fun _ => none) ρ0 (fun _ _ => none) w := ⟨fun _ _ => rfl, fun x A hx => (by cases hx), fun x y k o hx _ => (by cases hx), fun x k o hx => (by cases hx), fun k o hk => hk⟩
    have hcalls := hg.calls (fun k => w.heap[k]?) (fun _ => none) 0 (vs.map (SV.conc ρ)) (.one ⟨.p (FatesF (fun k => w.heap[k]?) A n), k (fatesOf (fun k => w.heap[k]?) A n), [], []⟩) ⟨.p (FatesF (fun k => w.heap[k]?) A n), k (fatesOf (fun k => w.heap[k]?) A n), [], []⟩ (by simp only [pureS, hq]) rfl hK ρ0 _ w h0 (fun v hv => by
      obtain ⟨u, _, rfl⟩ := List.mem_map.1 hv
      exact (SV.conc_den ρ ρ0 u).2)
    have e : (vs.map (SV.conc ρ)).map (SV.den ρ0) = vs.map (SV.den ρ) := by
      rw [List.map_map]
      exact List.map_congr_left (fun u _ => (SV.conc_den ρ ρ0 u).1)
    rw [e] at hcalls
    refine hcalls.mono ?_
    rintro e w' ⟨ρ', h', rfl, _, _, q3, q4⟩
    have hvals := hv vs L k (fatesOf (fun k => w.heap[k]?) A n) hpk
    refine ⟨ρ, h, by rw [(SV.vals_den hvals ρ' ρ).1], Ext.refl ρ, (SV.vals_den hvals ρ ρ).2, ?_, q4⟩
    have : updA atm [] = atm := by funext x; rfl
    rw [this]
    exact ⟨hs.new, hs.sat, hs.apart, fun x k o hx => ⟨q3.fr k o (hs.own x k o hx).1, (hs.own x k o hx).2⟩, fun k o hk => q3.fr k o (hs.fr k o hk)⟩
  refine ⟨hg.body, ?_, ?_⟩
  · intro F atm atm' x vs al r hr hal hra _
    unfold lendG at hr ⊢
    split at hr
    · cases hr; exact ⟨_, rfl, hal⟩
    · rename_i y n k hpk
      split at hr
      · rename_i m xs hy
        cases hr
        simp only [Alt.has] at hal
        subst hal
        have := hra y (by simp)
        rw [this, hy]
        exact ⟨_, rfl, rfl⟩
      · cases hr
    · cases hr
  · intro F atm x vs al r hr hal hc ρ h w hs hok
    unfold lendG at hr
    split at hr
    · rename_i A n c k hpk
      cases hr
      simp only [Alt.has] at hal
      subst hal
      obtain ⟨hK, heq⟩ := fates_mono hs.fr (show FatesF F A n from hc)
      have := main hs hpk (A := A) (n := n) (c := c) rfl hK
      rw [heq] at this
      exact this
    · rename_i y n k hpk
      split at hr
      · rename_i m xs hy
        cases hr
        simp only [Alt.has] at hal
        subst hal
        obtain ⟨rfl, hR⟩ := (show m = n ∧ FatesR xs n from hc)
        obtain ⟨g, c, cur, q1, q2, q2', q3, q4, q5, q6, q7, q8, q9⟩ := atom_row hs hy
        obtain ⟨hK, heq⟩ := row_fates q9 hR
        have := main hs hpk (A := some ⟨g, 0, none⟩) (n := m) (c := c) (by simp [SC.den, q1]) hK
        rw [heq] at this
        exact this
      · cases hr
    · cases hr

def chkP : Pick := fun vs => match vs with
  | [.e (.agg [.val (.int .u64 first), L])] => some (L, fun l => sval (vi (chkI first l)))
  | _ => none
theorem chk_lend : SpecOK Try.prog 9 (lendG chkP) := by
  refine lend_ok chk_ok ?_ ?_
  · intro vs L k l h
    unfold chkP at h
    split at h
    · cases h; rfl
    · cases h
  · intro F ρ vs L k A n c h hL
    unfold chkP at h
    split at h
    · cases h
      simp only [List.map_cons, List.map_nil, SV.conc, SE.conc, SC.conc, hL]
      rfl
    · cases h
def countsP : Pick := fun vs => match vs with
  | [.e (.agg [.val (.int .u64 first), L]), .e (.agg [.val (.int .u64 own), .val (.bool rd), .val (.int .u64 snap)]), .e (.c (.val (.int .u64 x)))] => some (L, fun l => sval (.bool (cntV ⟨own, rd, snap⟩ first l x)))
  | _ => none
theorem counts_lend : SpecOK Try.prog 13 (lendG countsP) := by
  refine lend_ok counts_ok ?_ ?_
  · intro vs L k l h
    unfold countsP at h
    split at h
    · cases h; rfl
    · cases h
  · intro F ρ vs L k A n c h hL
    unfold countsP at h
    split at h
    · cases h
      simp only [List.map_cons, List.map_nil, SV.conc, SE.conc, SC.conc, hL]
      rfl
    · cases h
def viewP : Pick := fun vs => match vs with
  | [.e (.agg [.val (.int .u64 first), L]), .e (.agg [.val (.int .u64 own), .val (.bool rd), .val (.int .u64 snap)]), .e (.agg [.val (.int .u32 r), .val (.int .u64 a), .val (.int .u64 b), .val (.int .i64 c), .val (.int .i64 d), .val (.int .i64 f), .val (.int .i64 g), .val (.int .i64 h)])] =>
    some (L, fun l => .tup [.c (.val (.bool (seenV ⟨own, rd, snap⟩ first l ⟨r, a, b, c, d, f, g, h⟩))), .c (.val (vi (errE first l ⟨r, a, b, c, d, f, g, h⟩)))])
  | _ => none
theorem view_lend : SpecOK Try.prog 11 (lendG viewP) := by
  refine lend_ok view_ok ?_ ?_
  · intro vs L k l h
    unfold viewP at h
    split at h
    · cases h; rfl
    · cases h
  · intro F ρ vs L k A n c h hL
    unfold viewP at h
    split at h
    · cases h
      simp only [List.map_cons, List.map_nil, SV.conc, SE.conc, SC.conc, hL]
      rfl
    · cases h
def deadP : Pick := fun vs => match vs with
  | [.e (.agg [.val (.int .u64 first), L]), .e (.c (.val (.int .u64 z))), .e (.agg [.val (.int .u32 r), .val (.int .u64 a), .val (.int .u64 b), .val (.int .i64 c), .val (.int .i64 d), .val (.int .i64 f), .val (.int .i64 g), .val (.int .i64 h)])] =>
    some (L, fun l => .tup [.c (.val (.bool (deadV z first l ⟨r, a, b, c, d, f, g, h⟩))), .c (.val (vi (errE first l ⟨r, a, b, c, d, f, g, h⟩)))])
  | _ => none
theorem dead_lend : SpecOK Try.prog 17 (lendG deadP) := by
  refine lend_ok dead_ok ?_ ?_
  · intro vs L k l h
    unfold deadP at h
    split at h
    · cases h; rfl
    · cases h
  · intro F ρ vs L k A n c h hL
    unfold deadP at h
    split at h
    · cases h
      simp only [List.map_cons, List.map_nil, SV.conc, SE.conc, SC.conc, hL]
      rfl
    · cases h

/-! ### A list that is written out -/
@[irreducible] def flat (l : List (Int × Int)) : List Value := (List.range (l.length * 2)).map fun q => if q % 2 = 0 then vu (fid l (q / 2)) else vu (fnm l (q / 2))
theorem flat_len (l : List (Int × Int)) : (flat l).length = l.length * 2 := by simp [flat]
theorem flat_get (l : List (Int × Int)) {q : Nat} (h : q < l.length * 2) : (flat l)[q]? = some (if q % 2 = 0 then vu (fid l (q / 2)) else vu (fnm l (q / 2))) := by
  simp [flat, h]
theorem flat_0 {l : List (Int × Int)} {i : Nat} (h : i < l.length) : (flat l)[i * 2 + 0]? = some (vu (fid l i)) := by
  rw [flat_get l (by omega), if_pos (by omega), show (i * 2 + 0) / 2 = i by omega]
theorem flat_1 {l : List (Int × Int)} {i : Nat} (h : i < l.length) : (flat l)[i * 2 + 1]? = some (vu (fnm l i)) := by
  rw [flat_get l (by omega), if_neg (by omega), show (i * 2 + 1) / 2 = i by omega]
theorem flat_c0 {l : List (Int × Int)} {i : Nat} (h : i < l.length) : celI (flat l) (i * 2 + 0) = fid l i := by
  unfold celI; rw [flat_0 h]; rfl
theorem flat_c1 {l : List (Int × Int)} {i : Nat} (h : i < l.length) : celI (flat l) (i * 2 + 1) = fnm l i := by
  unfold celI; rw [flat_1 h]; rfl
theorem pair_get {l : List (Int × Int)} {i : Nat} : l.getD i (0, 0) = (fid l i, fnm l i) := rfl
theorem flat_R {l : List (Int × Int)} (hw : WfL l) : FatesR (flat l) l.length ∧ fatesR (flat l) l.length = l := by
  have e : ∀ i, i < l.length → fateR (flat l) i = l.getD i (0, 0) := fun i hi => by
    unfold fateR
    rw [flat_c0 hi, flat_c1 hi]
    rfl
  refine ⟨fun i hi => ⟨fun j hj => ?_, by rw [e i hi]; exact hw i⟩, ?_⟩
  · have hj' : j = 0 ∨ j = 1 := by omega
    rcases hj' with rfl | rfl
    · rw [flat_0 hi, flat_c0 hi]
    · rw [flat_1 hi, flat_c1 hi]
  · apply List.ext_getElem?
    intro i
    by_cases hi : i < l.length
    · simp only [fatesR, List.getElem?_map, List.getElem?_range hi, Option.map_some, e i hi]
      simp [hi]
    · rw [List.getElem?_eq_none (by simp [fatesR]; omega), List.getElem?_eq_none (by omega)]

theorem elAt_add (A : Option Addr) (i j : Nat) : (elAt A (i : Int) 2).add j = (A.getD ⟨0, 0, none⟩).add (i * 2 + j) := by
  unfold elAt
  rw [Addr.add_add]
  simp
theorem ext_flat {F : Hp} {A : Option Addr} {n : Nat} (hK : FatesF F A n) : cExt F A n 2 z2 ∧ extV F A n 2 z2 = flat (fatesOf F A n) ∧ (A.isSome = true ∨ n = 0) := by
  have int : ∀ i, i < n → F.int ((A.getD ⟨0, 0, none⟩).add (i * 2 + 0)) = fid (fatesOf F A n) i ∧ F.int ((A.getD ⟨0, 0, none⟩).add (i * 2 + 1)) = fnm (fatesOf F A n) i := fun i hi => by
    have := at_fates hK hi
    rw [← elAt_add, ← elAt_add]
    exact ⟨this.v0, this.v1⟩
  have z : ∀ q, z2.getD (q % 2) undef = .int .u64 0 := fun q => by
    have : q % 2 = 0 ∨ q % 2 = 1 := by omega
    rcases this with h | h <;> rw [h] <;> rfl
  refine ⟨?_, ?_, ?_⟩
  · unfold cExt
    intro q hq
    have hi : q / 2 < n := by omega
    refine ⟨(hK _ hi).1, ?_⟩
    rw [z]
    have := cRead_cell (hK _ hi).2.1 (q % 2) (by omega)
    rw [elAt_add, show q / 2 * 2 + q % 2 = q by omega] at this
    exact this
  · apply List.ext_getElem?
    intro q
    by_cases hq : q < n * 2
    · have hi : q / 2 < n := by omega
      rw [flat_get _ (by rw [fatesOf_len]; exact hq)]
      simp only [extV, List.getElem?_map, List.getElem?_range hq, Option.map_some, z, rd1]
      obtain ⟨a0, a1⟩ := int _ hi
      by_cases h : q % 2 = 0
      · rw [if_pos h, ← a0, show q / 2 * 2 + 0 = q by omega]; rfl
      · rw [if_neg h, ← a1, show q / 2 * 2 + 1 = q by omega]; rfl
    · rw [List.getElem?_eq_none (by rw [extV_len]; omega), List.getElem?_eq_none (by rw [flat_len, fatesOf_len]; omega)]
  · by_cases h : n = 0
    · exact .inr h
    · exact .inl (hK 0 (by omega)).1

/-! ### The copy -/
def copyH (first : Int) (l : List (Int × Int)) : List (Nat × Atom) := [(6, .row 44 2 l.length (flat l))]
def copyV (first : Int) (n : Nat) : SV := .e (.agg [.val (vu first), .sli 6 n])
def copyG : SpecG := fun F atm z vs => match vs with
  | [.e (.agg [.val (.int .u64 first), .val (.slice A n _)])] => match atm z with
    | none => some (.one ⟨.p (FatesF F A n ∧ n ≤ 500), .e (.agg [.val (vu first), .sli z n]), [(z, .row 44 2 n (flat (fatesOf F A n)))], []⟩)
    | _ => none
  | _ => none
theorem copy_calls {w : World} {first : Int} {A : Option Addr} {n cap : Nat} (hK : FatesF (fun k => w.heap[k]?) A n) (hn : n ≤ 500) :
    Calls Try.prog 10 #[.agg #[vu first, .slice A n cap]] w fun e w' => ∃ ρ' h', e = .returned ((copyV first n).den ρ') ∧ (copyV first n).ok ρ' ∧ HSat (fun k => w.heap[k]?) (lk [(6, .row 44 2 n (flat (fatesOf (fun k => w.heap[k]?) A n)))]) ρ' h' w' ∧ Strm w w' := by
  obtain ⟨x1, x2, x3⟩ := ext_flat hK
  have := own_calls (P := Try.prog) (f := 10) (E := ⟨Ty, (fun _ => none), fun k => w.heap[k]?, 9, []⟩) Try.func10 rfl mixed Ty_ok (specs_nil _) (vs := [.e (.agg [.val (vu first), .val (.slice A n cap)])]) (rts := []) (by kernel_rfl) rfl (v := copyV first n) (hl := [(6, .row 44 2 n (flat (fatesOf (fun k => w.heap[k]?) A n)))]) (w := w) (ρ := ρ0) (h := fun _ _ => none)
    ⟨fun _ _ => rfl, fun x A hx => by simp [lk] at hx, fun x y k o hx _ => (by cases hx), fun x k o hx => (by cases hx), fun k o hk => hk⟩
    (fun u hu => by simp at hu; subst hu; intro c hc; simp [SE.cells] at hc; rcases hc with rfl | rfl <;> trivial) (fun r hr => by simp [ids] at hr) ?_
  · exact this.mono (fun e w' ⟨ρ', h', a1, a2, a3, a4, _⟩ => ⟨ρ', h', a1, a2, a3, a4⟩)
  · refine ⟨⟨rfl, x1, x3, ?_⟩, ?_⟩
    · unfold cRoom
      show (0 + n) * 16 ≤ _
      omega
    · refine ⟨fun x => x, rfl, rfl, ⟨?_, trivial⟩, ⟨?_, trivial⟩, rfl, rfl, rfl⟩
      · exact congrArg (fun q => some (SV.e (SE.agg [SC.val (vu first), SC.sli 6 q]))) (Nat.zero_add n)
      · exact (show some (Atom.row 44 2 (0 + n) ([] ++ extV (fun k => w.heap[k]?) A n 2 z2)) = some (Atom.row 44 2 n (flat (fatesOf (fun k => w.heap[k]?) A n))) from by rw [Nat.zero_add, List.nil_append, x2])
end Go.Proofs.Ytpjceimjhbmjnaa
