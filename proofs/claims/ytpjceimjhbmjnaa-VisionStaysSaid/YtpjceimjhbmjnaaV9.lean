/- The copy of a list of fates, told to callers; the layer does something; the plain facts. No condition. -/
import Derived.Test.YtpjceimjhbmjnaaV8
namespace Go.Proofs.Ytpjceimjhbmjnaa
open Go.Sy
set_option linter.unusedSimpArgs false
set_option linter.unusedVariables false
set_option maxRecDepth 100000

theorem copy_ok : SpecOK Try.prog 10 copyG := by
  refine ⟨⟨_, _, Try.func10, rfl, by kernel_rfl⟩, ?_, ?_⟩
  · intro F atm atm' z args al r hg hal hra hag
    unfold copyG at hg ⊢
    split at hg
    · split at hg
      · rename_i hz
        cases hg
        simp only [Alt.has] at hal
        subst hal
        have e := hag z (by simp [ids])
        rw [e, hz]
        exact ⟨_, rfl, rfl⟩
      · cases hg
    · cases hg
  · intro F atm z args al r hg hal hc ρ h w hs hok
    unfold copyG at hg
    split at hg
    · rename_i first A n cap
      split at hg
      · rename_i hz
        cases hg
        simp only [Alt.has] at hal
        subst hal
        obtain ⟨hc, hn⟩ := (show FatesF F A n ∧ n ≤ 500 from hc)
        obtain ⟨hK, heq⟩ := fates_mono hs.fr hc
        refine (copy_calls (w := w) (first := first) (cap := cap) hK hn).mono ?_
        rintro e w' ⟨ρ', h', rfl, q1, q2, q3⟩
        obtain ⟨ρ'', h'', b1, b2, b3⟩ := own_back (τ := fun _ => z) (rts := []) (hl := [(6, .row 44 2 n (flat (fatesOf (fun k => w.heap[k]?) A n)))]) hs q2 (fun k o hk => .inl hk) (fun r hr => by simp [ids] at hr) (fun r hr => by simp [ids] at hr)
          (fun x hx _ => hz) (fun x hx y hy _ => by simp [ids] at hx hy; omega) (fun y hy => by simp [hIds, Atom.ids] at hy)
        obtain ⟨c1, c2⟩ := b3 (copyV first n) (fun y hy => by simp [copyV, SV.ids, SE.ids, SE.cells, csIds, SC.ids] at hy; simp [ids, hy]) q1
        rw [heq] at b2
        exact ⟨ρ'', h'', by rw [← c1]; rfl, b1, c2, b2, q3⟩
      · cases hg
    · cases hg

def sp20 : Specs := consSp 9 (lendG chkP) (consSp 13 (lendG countsP) (consSp 11 (lendG viewP) (consSp 17 (lendG deadP) (consSp 10 copyG (consSp 12 (pureS rightG) (consSp 14 (pureS rcntG) (consSp 15 (pureS tupG) (consSp 16 (pureS rseeG) (consSp 18 (pureS rdeadG) (fun _ => none))))))))))
theorem sp20_ok : SpecsOK Try.prog sp20 := specs_cons chk_lend (specs_cons counts_lend (specs_cons view_lend (specs_cons dead_lend (specs_cons copy_ok (specs_cons right_ok (specs_cons rcnt_ok (specs_cons tup_ok (specs_cons rsee_ok (specs_cons rdead_ok (specs_nil _))))))))))

def wakesG : PureG := fun F vs => match vs with
  | [] => some (.t, sval (.bool true))
  | _ => none
theorem no_t {b : Bool} (h : b = true) (h' : b = false) : False := by rw [h] at h'; cases h'
def wkX : List Value := [vu 3, vu 5, vu 4, vu 0, vu 5, vu 7]
theorem wk_R : FatesR wkX 3 := by
  intro i hi
  have h : i = 0 ∨ i = 1 ∨ i = 2 := by omega
  refine ⟨fun j hj => ?_, ?_⟩
  · have hj' : j = 0 ∨ j = 1 := by omega
    rcases h with rfl | rfl | rfl <;> rcases hj' with rfl | rfl <;> rfl
  · rcases h with rfl | rfl | rfl <;> exact ⟨by decide, by decide, by decide, by decide⟩
theorem wakes_ok : SpecOK Try.prog 8 (pureS wakesG) := by
  refine pure_ok ⟨_, _, Try.func8, rfl, by kernel_rfl⟩ ?_
  intro F vs c v hp hc
  unfold wakesG at hp
  split at hp
  · cases hp
    refine ⟨rfl, rfl, fun w hF => ?_⟩
    refine pure_calls (E := ⟨Ty, sp20, fun k => w.heap[k]?, 43, []⟩) Try.func8 rfl mixed Ty_ok sp20_ok rfl (by kernel_rfl) rfl rfl rfl ?_
    refine ⟨⟨rfl, wk_R⟩, ?_⟩
    refine ⟨⟨rfl, wk_R⟩, ?_⟩
    refine ⟨fun _ => ?_, fun h => (Bool.eq_false_iff.1 h (by kernel_rfl)).elim⟩
    refine ⟨fun _ => ?_, fun h => (Bool.eq_false_iff.1 h (by kernel_rfl)).elim⟩
    refine ⟨fun _ => ?_, fun h => (Bool.eq_false_iff.1 h (by kernel_rfl)).elim⟩
    refine ⟨fun _ => ?_, fun h => (Bool.eq_false_iff.1 h (by kernel_rfl)).elim⟩
    refine ⟨⟨rfl, wk_R⟩, ?_⟩
    exact ⟨by kernel_rfl, trivial⟩
  · cases hp
def sp21 : Specs := consSp 8 (pureS wakesG) sp20
theorem sp21_ok : SpecsOK Try.prog sp21 := specs_cons wakes_ok sp20_ok

/-! ### Plain facts -/
structure TupW (t : Tup) : Prop where
  row : 0 ≤ t.row
  a : 0 ≤ t.a
  b : 0 ≤ t.b
theorem heap_tup {t : Tup} (h : TupW t) : ieq (heapI t) 0 = tupB t := by
  have h1 := h.row
  have h2 := h.a
  have h3 := h.b
  rw [Bool.eq_iff_iff]
  simp only [heapI, tupB, ieq, ilt, ile, Bool.and_eq_true, beq_iff_eq, decide_eq_true_eq]
  split
  · rename_i h
    simp only [Bool.or_eq_true, beq_iff_eq, decide_eq_true_eq, Bool.not_eq_true'] at h
    constructor
    · intro q; omega
    · rintro ⟨⟨⟨⟨p1, p2⟩, p3⟩, p4⟩, p5⟩
      rw [p5] at h
      rcases h with (((h | h) | h) | h) | h
      · omega
      · omega
      · omega
      · omega
      · cases h
  · rename_i h
    simp only [Bool.or_eq_true, beq_iff_eq, decide_eq_true_eq, Bool.not_eq_true', not_or] at h
    obtain ⟨⟨⟨⟨p1, p2⟩, p3⟩, p4⟩, p5⟩ := h
    refine ⟨fun _ => ⟨⟨⟨⟨by omega, by omega⟩, by omega⟩, by omega⟩, by simpa using p5⟩, fun _ => rfl⟩
theorem lk_nonneg {x n : Int} : ∀ {l : List (Int × Int)}, WfL l → lkF l x = some n → 0 ≤ n ∧ ∃ i, i < l.length ∧ fid l i = x ∧ fnm l i = n
  | [], _, h => by simp [lkF] at h
  | p :: l, hw, h => by
    simp only [lkF] at h
    split at h
    · rename_i hp
      cases h
      exact ⟨(hw 0).2.2.1, 0, by simp, by simpa [fid] using hp, by simp [fnm]⟩
    · obtain ⟨h1, i, h2, h3, h4⟩ := lk_nonneg (l := l) (fun i => by simpa using hw (i + 1)) h
      exact ⟨h1, i + 1, by simpa using h2, by simpa [fid] using h3, by simpa [fnm] using h4⟩
theorem lk_zero {first : Int} {l : List (Int × Int)} (hok : okF first l = true) {x : Int} (hx : x < first) : lkF l x = none := by
  obtain ⟨h1, h2, h3⟩ := okF_iff.1 hok
  refine lk_no (fun k hk he => ?_)
  have := (okAt_iff.1 (h3 k hk)).1
  omega
theorem kinds {first : Int} {l : List (Int × Int)} (hok : okF first l = true) (hw : WfL l) {x : Int} (hx : 0 ≤ x) :
    fateD first l x = ieq (rfK first l x) 1 ∧ fateN first l x = rfN first l x ∧ (1 ≤ x → (!fateD first l x && !fateO first l x) = ieq (rfK first l x) 3) := by
  have h1 := (okF_iff.1 hok).1
  by_cases h0 : x = 0
  · subst h0
    have hl := lk_zero hok (x := 0) (by omega)
    refine ⟨by simp [fateD, rfK, ilt, ieq, hl], by simp [fateN, rfN, ilt, ieq, hl], fun h => by omega⟩
  · have hi : ieq x 0 = false := by simpa [ieq] using h0
    have hp : ilt 0 x = true := by simp [ilt]; omega
    by_cases hf : x < first
    · have hl : ilt x first = true := by simp [ilt, hf]
      refine ⟨by simp [fateD, rfK, hp, hl, hi]; simp [ieq], by simp [fateN, rfN, hp, hl, hi], fun _ => by simp [fateD, rfK, hp, hl, hi]; simp [ieq]⟩
    · have hl : ilt x first = false := by simp [ilt]; omega
      cases hk : lkF l x with
      | none => refine ⟨by simp [fateD, rfK, hp, hl, hi, hk]; simp [ieq], by simp [fateN, rfN, hp, hl, hi, hk], fun _ => by simp [fateD, fateO, rfK, hp, hl, hi, hk]; simp [ieq]⟩
      | some n =>
        have hn := (lk_nonneg hw hk).1
        by_cases hz : n = 0
        · subst hz
          refine ⟨by simp [fateD, rfK, hp, hl, hi, hk]; simp [ieq, ilt], by simp [fateN, rfN, hp, hl, hi, hk], fun _ => by simp [fateD, fateO, rfK, hp, hl, hi, hk]; simp [ieq, ilt]⟩
        · have g1 : ilt 0 n = true := by simp [ilt]; omega
          have g2 : ieq n 0 = false := by simpa [ieq] using hz
          refine ⟨by simp [fateD, rfK, hp, hl, hi, hk, g1, g2]; simp [ieq], by simp [fateN, rfN, hp, hl, hi, hk], fun _ => by simp [fateD, fateO, rfK, hp, hl, hi, hk, g1, g2]; simp [ieq]⟩
theorem cnt_eq {first : Int} {l : List (Int × Int)} (hok : okF first l = true) (hw : WfL l) (e : Ey) {x : Int} (hx : 0 ≤ x) : rcnt e first l x = cnt e first l x := by
  obtain ⟨k1, k2, _⟩ := kinds hok hw hx
  have : ilt 0 x = ine x 0 := by
    rw [Bool.eq_iff_iff]; simp [ilt, ine]; omega
  unfold rcnt cnt
  rw [k1, k2, this]
theorem see_eq {first : Int} {l : List (Int × Int)} (hok : okF first l = true) (hw : WfL l) (e : Ey) {t : Tup} (ht : TupW t) : rsee e first l t = seeB e first l t := by
  unfold rsee seeB
  rw [cnt_eq hok hw e ht.a, cnt_eq hok hw e ht.b]
theorem dead_eq {first : Int} {l : List (Int × Int)} (hok : okF first l = true) (hw : WfL l) (h : Int) {t : Tup} (ht : TupW t) (hq : tupB t = true) : rdead h first l t = deadB h first l t := by
  have h1 : 1 ≤ t.a := by
    simp only [tupB, Bool.and_eq_true, ile, decide_eq_true_eq] at hq
    exact hq.1.1.1.2
  obtain ⟨_, _, k3⟩ := kinds hok hw ht.a
  obtain ⟨k4, k5, _⟩ := kinds hok hw ht.b
  unfold rdead deadB
  rw [k3 h1, k4, k5]
theorem chk_270 {first : Int} {l : List (Int × Int)} : ieq (chkI first l) 270 = !okF first l := by
  unfold chkI; cases okF first l <;> simp [ieq]
theorem chk_0 {first : Int} {l : List (Int × Int)} : ine (chkI first l) 0 = !okF first l := by
  unfold chkI; cases okF first l <;> simp [ine]
theorem err_270 {first : Int} {l : List (Int × Int)} {t : Tup} : ieq (errE first l t) 270 = !okF first l := by
  unfold errE; cases okF first l <;> cases ieq (heapI t) 0 <;> simp [ieq]
theorem err_200 {first : Int} {l : List (Int × Int)} {t : Tup} : ieq (errE first l t) 200 = (okF first l && !ieq (heapI t) 0) := by
  unfold errE; cases okF first l <;> cases h : ieq (heapI t) 0 <;> simp [ieq]
theorem err_0 {first : Int} {l : List (Int × Int)} {t : Tup} : ieq (errE first l t) 0 = (okF first l && ieq (heapI t) 0) := by
  unfold errE; cases okF first l <;> cases h : ieq (heapI t) 0 <;> simp [ieq]
theorem err_n0 {first : Int} {l : List (Int × Int)} {t : Tup} : ine (errE first l t) 0 = !(okF first l && ieq (heapI t) 0) := by
  unfold errE; cases okF first l <;> cases h : ieq (heapI t) 0 <;> simp [ine]
end Go.Proofs.Ytpjceimjhbmjnaa
