/- A list of boxes, parted: the call, told to its callers. No condition. -/
import Derived.Test.YtemoagpahhdoeaaK8
namespace Go.Proofs.Ytemoagpahhdoeaa
open Go.Sy
set_option linter.unusedSimpArgs false
set_option linter.unusedVariables false
set_option maxRecDepth 100000

def keyR (xs : List Value) (i : Nat) : Key := ⟨celI xs (i * 4 + 0), celI xs (i * 4 + 1), celI xs (i * 4 + 2), celI xs (i * 4 + 3)⟩
def keysR (xs : List Value) (n : Nat) : List Key := (List.range n).map (keyR xs)
def KeysR (xs : List Value) (n : Nat) : Prop := ∀ i : Nat, i < n → ∀ j, j < 4 → xs[i * 4 + j]? = some (vi (celI xs (i * 4 + j)))
def partAlt (c : Prop) (n : Nat) (l : List Key) (z : Nat) (ra : List Nat) : Alt :=
  .two (ilt 64 n) (.one ⟨.p c, .tup [nilS, nilS, iE 3], [(z, .gone), (z + 1000, .gone)], ra⟩)
    (.two (badL l) (.one ⟨.p c, .tup [nilS, nilS, iE 2], [(z, .gone), (z + 1000, .gone)], ra⟩)
      (.one ⟨.p c, .tup [.c (.sli z (partM l).pa.length), .c (.sli (z + 1000) (partM l).pb.length), iE 0], [(z, .row 3 1 (partM l).pa.length ((sortM (partM l).pa).map vi)), (z + 1000, .row 3 1 (partM l).pb.length ((sortM (partM l).pb).map vi))], ra⟩))
def partG : SpecG := fun F atm z vs => match vs with
  | [.e (.c (.val (.slice A n _)))] => match atm z, atm (z + 1000) with
    | none, none => some (partAlt (KeysF F A n) n (keysOf F A n) z [])
    | _, _ => none
  | [.e (.c (.sli y n))] => match atm y, atm z, atm (z + 1000) with
    | some (.row 32 4 m xs), none, none => some (partAlt (m = n ∧ KeysR xs n) n (keysR xs n) z [y])
    | _, _, _ => none
  | _ => none

theorem hsat_gone {F : Hp} {atm : Nat → Option Atom} {ρ : Env} {h : Nat → Hp} {w : World} (hs : HSat F (updA atm []) ρ h w) {z z' : Nat} : HSat F (updA atm [(z, .gone), (z', .gone)]) ρ h w := by
  have e0 : ∀ x, updA atm [] x = atm x := fun x => rfl
  have e : ∀ x A, updA atm [(z, .gone), (z', .gone)] x = some A → A = .gone ∨ atm x = some A := fun x A hx => by
    simp only [updA, lk_cons, lk_nil] at hx
    split at hx
    · rename_i q
      split at q
      · cases q; cases hx; exact .inl rfl
      · split at q
        · cases q; cases hx; exact .inl rfl
        · cases q
    · exact .inr hx
  refine ⟨fun x hx => ?_, fun x A hx => ?_, hs.apart, hs.own, hs.fr⟩
  · refine hs.new x ?_
    rw [e0]
    simp only [updA, lk_cons, lk_nil] at hx
    split at hx
    · cases hx
    · exact hx
  · rcases e x A hx with rfl | h
    · trivial
    · exact hs.sat x A h
theorem part_back {F : Hp} {atm : Nat → Option Atom} {ρ : Env} {h : Nat → Hp} {w : World} (hs : HSat F atm ρ h w) {A : Option Addr} {n cap z : Nat} (hK : KeysF (fun k => w.heap[k]?) A n) {l : List Key} (hl : keysOf (fun k => w.heap[k]?) A n = l) (hz : atm z = none) (hz' : atm (z + 1000) = none) {c : Prop} {ra : List Nat} {r : Out} (hr : (partAlt c n l z ra).has r) :
    Calls Try.prog 8 #[.slice A n cap] w fun e w' => ∃ ρ' h', e = .returned (r.v.den ρ') ∧ Ext ρ ρ' ∧ r.v.ok ρ' ∧ HSat F (updA atm r.wa) ρ' h' w' ∧ Strm w w' := by
  have back : ∀ (v : SV) (hl' : List (Nat × Atom)), (hl' = [] ∨ hl' = partH l) → (∀ y ∈ v.ids, y ∈ ids hl') → r.v = v.ren (tau [(2001, z), (2002, z + 1000)]) → (r.wa = renH (tau [(2001, z), (2002, z + 1000)]) hl' ∨ (hl' = [] ∧ r.wa = [(z, .gone), (z + 1000, .gone)])) →
      (Calls Try.prog 8 #[.slice A n cap] w fun e w' => ∃ ρ' h', e = .returned (v.den ρ') ∧ v.ok ρ' ∧ HSat (fun k => w.heap[k]?) (lk hl') ρ' h' w' ∧ Strm w w') →
      Calls Try.prog 8 #[.slice A n cap] w fun e w' => ∃ ρ' h', e = .returned (r.v.den ρ') ∧ Ext ρ ρ' ∧ r.v.ok ρ' ∧ HSat F (updA atm r.wa) ρ' h' w' ∧ Strm w w' := by
    intro v hl' hor hv e1 e2 hc
    refine hc.mono ?_
    rintro e w' ⟨ρ', h', rfl, q1, q2, q3⟩
    obtain ⟨ρ'', h'', b1, b2, b3⟩ := own_back (τ := tau [(2001, z), (2002, z + 1000)]) (rts := []) (hl := hl') hs q2 (fun k o hk => .inl hk) (fun r hr => by simp [ids] at hr) (fun r hr => by simp [ids] at hr)
      (fun x hx _ => by
        rcases hor with rfl | rfl
        · simp [ids] at hx
        · simp [partH, ids] at hx
          rcases hx with rfl | rfl
          · exact hz
          · exact hz')
      (fun x hx y hy he => by
        rcases hor with rfl | rfl
        · simp [ids] at hx
        · have hn : nodupB (snds [(2001, z), (2002, z + 1000)]) = true := by
            have : Nat.beq z (z + 1000) = false := by
              cases hb : Nat.beq z (z + 1000) with
              | false => rfl
              | true => have := Nat.eq_of_beq_eq_true hb; omega
            simp [nodupB, snds, memB, this]
          exact tau_inj hn x hx y hy he)
      (fun y hy => by
        rcases hor with rfl | rfl <;> simp [hIds, partH, Atom.ids] at hy)
    obtain ⟨c1, c2⟩ := b3 v hv q1
    exact ⟨ρ'', h'', by rw [e1, c1], b1, by rw [e1]; exact c2, (by
      rcases e2 with e2 | ⟨e2, e3⟩
      · rw [e2]; exact b2
      · subst e2; rw [e3]; exact hsat_gone b2), q3⟩
  unfold partAlt at hr
  simp only [Alt.has] at hr
  rcases hr with ⟨g1, rfl⟩ | ⟨g1, ⟨g2, rfl⟩ | ⟨g2, rfl⟩⟩
  · refine back (.tup [nilS, nilS, iE 3]) [] (.inl rfl) (by simp [SV.ids, esIds, SE.ids, SE.cells, csIds, SC.ids, nilS, iE]) rfl (.inr ⟨rfl, rfl⟩) (part_calls hK hl (fun _ => ⟨rfl, rfl⟩) (fun h => by rw [g1] at h; cases h) (fun h => by rw [g1] at h; cases h))
  · refine back (.tup [nilS, nilS, iE 2]) [] (.inl rfl) (by simp [SV.ids, esIds, SE.ids, SE.cells, csIds, SC.ids, nilS, iE]) rfl (.inr ⟨rfl, rfl⟩) (part_calls hK hl (fun h => by rw [g1] at h; cases h) (fun _ _ => ⟨rfl, rfl⟩) (fun _ h => by rw [g2] at h; cases h))
  · refine back (partT l) (partH l) (.inr rfl) (by simp [partT, partH, ids, SV.ids, esIds, SE.ids, SE.cells, csIds, SC.ids, nilS, iE]) rfl (.inl rfl) (part_calls hK hl (fun h => by rw [g1] at h; cases h) (fun _ h => by rw [g2] at h; cases h) (fun _ _ => ⟨rfl, rfl⟩))

theorem keys_row {w : World} {g : Nat} {xs : List Value} {n : Nat} (hc : ∀ m v, xs[m]? = some v → w.cell? ⟨g, m, none⟩ = some v) (h : KeysR xs n) : KeysF (fun k => w.heap[k]?) (some ⟨g, 0, none⟩) n ∧ keysOf (fun k => w.heap[k]?) (some ⟨g, 0, none⟩) n = keysR xs n := by
  have cell : ∀ i, i < n → ∀ j, j < 4 → Hp.cell (fun k => w.heap[k]?) ((elAt (some ⟨g, 0, none⟩) i 4).add j) = some (vi (celI xs (i * 4 + j))) := fun i hi j hj => by
    have := hc _ _ (h i hi j hj)
    have e : (elAt (some ⟨g, 0, none⟩) i 4).add j = ⟨g, i * 4 + j, none⟩ := by
      simp [elAt, addr_add]
    rw [e]
    unfold World.cell? at this
    unfold Hp.cell
    exact this
  have int : ∀ i, i < n → ∀ j, j < 4 → Hp.int (fun k => w.heap[k]?) ((elAt (some ⟨g, 0, none⟩) i 4).add j) = celI xs (i * 4 + j) := fun i hi j hj => by
    unfold Hp.int
    rw [cell i hi j hj]
  refine ⟨fun i hi => ⟨rfl, ?_⟩, ?_⟩
  · intro j c hj
    have hlt : j < 4 := by
      have := (List.getElem?_eq_some_iff.1 hj).1
      simpa [rdT] using this
    have hj' : j = 0 ∨ j = 1 ∨ j = 2 ∨ j = 3 := by omega
    rcases hj' with rfl | rfl | rfl | rfl <;> (simp [rdT] at hj; subst hj; exact ⟨_, rfl, by rw [cell i hi _ hlt, int i hi _ hlt]⟩)
  · unfold keysOf keysR
    refine List.map_congr_left (fun i hi => ?_)
    have hi := List.mem_range.1 hi
    unfold keyAt keyR
    rw [int i hi 0 (by omega), int i hi 1 (by omega), int i hi 2 (by omega), int i hi 3 (by omega)]

theorem part_ok : SpecOK Try.prog 8 partG := by
  refine ⟨⟨_, _, Try.func8, rfl, by kernel_rfl⟩, ?_, ?_⟩
  · intro F atm atm' z args al r hg hal hra hag
    unfold partG at hg
    have ag : ∀ c n l ra, al = partAlt c n l z ra → (∀ y ∈ ra, atm' y = atm y) ∧ atm' z = atm z ∧ atm' (z + 1000) = atm (z + 1000) := fun c n l ra he => by
      subst he
      unfold partAlt at hal
      simp only [Alt.has] at hal
      rcases hal with ⟨_, rfl⟩ | ⟨_, ⟨_, rfl⟩ | ⟨_, rfl⟩⟩ <;> exact ⟨hra, hag _ (by simp [ids]), hag _ (by simp [ids])⟩
    split at hg
    · split at hg
      · rename_i h1 h2
        cases hg
        obtain ⟨_, e1, e2⟩ := ag _ _ _ _ rfl
        exact ⟨_, by simp only [partG, e1, e2, h1, h2], hal⟩
      · cases hg
    · rename_i y n
      split at hg
      · rename_i m xs h1 h2 h3
        cases hg
        obtain ⟨e0, e1, e2⟩ := ag _ _ _ _ rfl
        exact ⟨_, by simp only [partG, e0 y (by simp), e1, e2, h1, h2, h3], hal⟩
      · cases hg
    · cases hg
  · intro F atm z args al r hg hal hc ρ h w hs hok
    unfold partG at hg
    split at hg
    · rename_i A n cap
      split at hg
      · rename_i h1 h2
        cases hg
        have hK0 : KeysF F A n := by
          unfold partAlt at hal
          simp only [Alt.has] at hal
          rcases hal with ⟨_, rfl⟩ | ⟨_, ⟨_, rfl⟩ | ⟨_, rfl⟩⟩ <;> exact hc
        obtain ⟨hK, heq⟩ := keys_mono hs.fr hK0
        exact part_back hs hK heq h1 h2 hal
      · cases hg
    · rename_i y n
      split at hg
      · rename_i m xs h1 h2 h3
        cases hg
        have hK0 : m = n ∧ KeysR xs n := by
          unfold partAlt at hal
          simp only [Alt.has] at hal
          rcases hal with ⟨_, rfl⟩ | ⟨_, ⟨_, rfl⟩ | ⟨_, rfl⟩⟩ <;> exact hc
        obtain ⟨rfl, hR⟩ := hK0
        obtain ⟨g, c, cur, q1, q2, q2', q3, q4, q5, q6, q7, q8, q9⟩ := atom_row hs h1
        obtain ⟨hK, heq⟩ := keys_row q9 hR
        have := part_back (cap := c) hs hK heq h2 h3 hal
        have e : (List.map (SV.den ρ) [SV.e (SE.c (SC.sli y m))]).toArray = #[.slice (some ⟨g, 0, none⟩) m c] := by simp [SV.den, SE.den, SC.den, q1]
        rw [e]
        exact this
      · cases hg
    · cases hg
def sp23 : Specs := consSp 8 partG sp22
theorem sp23_ok : SpecsOK Try.prog sp23 := specs_cons part_ok sp22_ok
end Go.Proofs.Ytemoagpahhdoeaa
