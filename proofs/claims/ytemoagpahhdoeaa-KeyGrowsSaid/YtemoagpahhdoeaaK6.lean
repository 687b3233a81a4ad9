/- The side that a box is put to. No condition. -/
import Derived.Test.YtemoagpahhdoeaaK5
namespace Go.Proofs.Ytemoagpahhdoeaa
open Go.Sy
set_option linter.unusedSimpArgs false
set_option linter.unusedVariables false
set_option maxRecDepth 100000

def memB (x : Nat) : List Nat → Bool
  | [] => false
  | y :: r => Nat.beq x y || memB x r
def nodupB : List Nat → Bool
  | [] => true
  | x :: r => !memB x r && nodupB r
def tau (l : List (Nat × Nat)) (k : Nat) : Nat := match lk l k with
  | some v => v
  | none => k
def snds : List (Nat × Nat) → List Nat
  | [] => []
  | p :: r => p.2 :: snds r
theorem memB_of {x : Nat} : ∀ {l : List Nat}, x ∈ l → memB x l = true
  | [], h => by simp at h
  | y :: r, h => by
    simp only [memB, Bool.or_eq_true]
    rcases List.mem_cons.1 h with rfl | h
    · exact .inl (Nat.beq_refl x)
    · exact .inr (memB_of h)
theorem lk_snds : ∀ {l : List (Nat × Nat)} {k v : Nat}, lk l k = some v → v ∈ snds l
  | [], k, v, h => by simp [lk] at h
  | (j, u) :: r, k, v, h => by
    rw [lk_cons] at h
    simp only [snds, List.mem_cons]
    split at h
    · cases h; exact .inl rfl
    · exact .inr (lk_snds h)
theorem lk_inj : ∀ {l : List (Nat × Nat)}, nodupB (snds l) = true → ∀ {x y v : Nat}, lk l x = some v → lk l y = some v → x = y
  | [], _, x, y, v, h, _ => by simp [lk] at h
  | (j, u) :: r, hn, x, y, v, h, h' => by
    simp only [snds, nodupB, Bool.and_eq_true, Bool.not_eq_true'] at hn
    rw [lk_cons] at h h'
    split at h
    · rename_i e
      cases h
      split at h'
      · rename_i e'; rw [← e, ← e']
      · have := memB_of (lk_snds h'); rw [this] at hn; simp at hn
    · split at h'
      · cases h'
        have := memB_of (lk_snds h); rw [this] at hn; simp at hn
      · exact lk_inj hn.2 h h'
theorem tau_inj {l : List (Nat × Nat)} (hn : nodupB (snds l) = true) : ∀ x ∈ ids l, ∀ y ∈ ids l, tau l x = tau l y → x = y := by
  intro x hx y hy he
  obtain ⟨a, ha⟩ := lk_ids hx
  obtain ⟨b, hb⟩ := lk_ids hy
  simp only [tau, ha, hb] at he
  subst he
  exact lk_inj hn ha hb

@[irreducible] def chA (n m lf lt : Int) (ka kb x : Key) : Bool :=
  ile (iadd .i64 n lf) lt || (!ile (iadd .i64 m lf) lt && (lessB ka kb x || (!lessB kb ka x && ile n m)))

def chooseG : SpecG := fun F atm z vs => match vs with
  | [.e (.agg [.val (.int .i64 a), .val (.int .i64 b), .val (.int .i64 c), .val (.int .i64 d)]), .e (.c (.ptr pa 0)), .e (.c (.ptr pl 0)), .e (.c (.ptr pt 0)), .e (.c (.ptr pb 0))] => match atm pa, atm pl, atm pt, atm pb with
    | some (.blk 46 [.ptr sa 0]), some (.blk 3 [.val (.int .i64 lf)]), some (.blk 3 [.val (.int .i64 lt)]), some (.blk 46 [.ptr sb 0]) => match atm sa, atm sb with
      | some (.blk 48 [.sli ya n, .val (.int .i64 a1), .val (.int .i64 b1), .val (.int .i64 c1), .val (.int .i64 d1)]), some (.blk 48 [.sli yb m, .val (.int .i64 a2), .val (.int .i64 b2), .val (.int .i64 c2), .val (.int .i64 d2)]) => match atm ya, atm yb, nodupB [pa, pl, pt, pb, sa, sb, ya, yb] with
        | some (.row 3 1 n' xs), some (.row 3 1 m' ys), true =>
          some (.two (chA n m lf lt ⟨a1, b1, c1, d1⟩ ⟨a2, b2, c2, d2⟩ ⟨a, b, c, d⟩)
            (.one ⟨.t, .e (.c (.ptr sa 0)), [(pa, .blk 46 [.ptr sa 0]), (pl, .blk 3 [.val (vi lf)]), (pt, .blk 3 [.val (vi lt)]), (pb, .blk 46 [.ptr sb 0]), (sa, sideA ya n ⟨a1, b1, c1, d1⟩), (sb, sideA yb m ⟨a2, b2, c2, d2⟩), (ya, .row 3 1 n' xs), (yb, .row 3 1 m' ys)], []⟩)
            (.one ⟨.t, .e (.c (.ptr sb 0)), [(pa, .blk 46 [.ptr sa 0]), (pl, .blk 3 [.val (vi lf)]), (pt, .blk 3 [.val (vi lt)]), (pb, .blk 46 [.ptr sb 0]), (sa, sideA ya n ⟨a1, b1, c1, d1⟩), (sb, sideA yb m ⟨a2, b2, c2, d2⟩), (ya, .row 3 1 n' xs), (yb, .row 3 1 m' ys)], []⟩))
        | _, _, _ => none
      | _, _ => none
    | _, _, _, _ => none
  | _ => none

theorem choose_ok : SpecOK Try.prog 19 chooseG := by
  refine ⟨⟨_, _, Try.func19, rfl, by kernel_rfl⟩, ?_, ?_⟩
  · intro F atm atm' z args al r hg hal _ hag
    unfold chooseG at hg
    split at hg
    · rename_i a b c d pa pl pt pb
      split at hg
      · rename_i sa lf lt sb h1 h2 h3 h4
        split at hg
        · rename_i ya n a1 b1 c1 d1 yb m a2 b2 c2 d2 h5 h6
          split at hg
          · rename_i n' xs m' ys h7 h8 h9
            cases hg
            have hag' : ∀ y, y ∈ [pa, pl, pt, pb, sa, sb, ya, yb] → atm' y = atm y := fun y hy => by
              simp only [Alt.has] at hal
              rcases hal with ⟨_, rfl⟩ | ⟨_, rfl⟩ <;> exact hag y hy
            refine ⟨_, ?_, hal⟩
            simp only [chooseG, hag' pa (by simp), hag' pl (by simp), hag' pt (by simp), hag' pb (by simp), hag' sa (by simp), hag' sb (by simp), hag' ya (by simp), hag' yb (by simp), h1, h2, h3, h4, h5, h6, h7, h8, h9]
          · cases hg
        · cases hg
      · cases hg
    · cases hg
  · intro F atm z args al r hg hal hc ρ h w hs hok
    unfold chooseG at hg
    split at hg
    · rename_i a b c d pa pl pt pb
      split at hg
      · rename_i sa lf lt sb h1 h2 h3 h4
        split at hg
        · rename_i ya n a1 b1 c1 d1 yb m a2 b2 c2 d2 h5 h6
          split at hg
          · rename_i n' xs m' ys h7 h8 h9
            cases hg
            have key : ∀ (B : Bool), chA n m lf lt ⟨a1, b1, c1, d1⟩ ⟨a2, b2, c2, d2⟩ ⟨a, b, c, d⟩ = B → r = ⟨.t, .e (.c (.ptr (match B with | true => sa | false => sb) 0)), [(pa, .blk 46 [.ptr sa 0]), (pl, .blk 3 [.val (vi lf)]), (pt, .blk 3 [.val (vi lt)]), (pb, .blk 46 [.ptr sb 0]), (sa, sideA ya n ⟨a1, b1, c1, d1⟩), (sb, sideA yb m ⟨a2, b2, c2, d2⟩), (ya, .row 3 1 n' xs), (yb, .row 3 1 m' ys)], []⟩ → Calls Try.prog 19 ((List.map (SV.den ρ) [.e (.agg [.val (.int .i64 a), .val (.int .i64 b), .val (.int .i64 c), .val (.int .i64 d)]), .e (.c (.ptr pa 0)), .e (.c (.ptr pl 0)), .e (.c (.ptr pt 0)), .e (.c (.ptr pb 0))])).toArray w fun e w' => ∃ ρ' h', e = .returned (r.v.den ρ') ∧ Ext ρ ρ' ∧ r.v.ok ρ' ∧ HSat F (updA atm r.wa) ρ' h' w' ∧ Strm w w' := by
              intro B hB hr
              subst hr
              refine own_out (n := 67) (τ := tau [(1001, pa), (1002, pl), (1003, pt), (1004, pb), (1005, sa), (1006, sb), (1007, ya), (1008, yb)])
                (rts := [(1001, .blk 46 [.ptr 1005 0]), (1002, .blk 3 [.val (vi lf)]), (1003, .blk 3 [.val (vi lt)]), (1004, .blk 46 [.ptr 1006 0]), (1005, sideA 1007 n ⟨a1, b1, c1, d1⟩), (1006, sideA 1008 m ⟨a2, b2, c2, d2⟩), (1007, .row 3 1 n' xs), (1008, .row 3 1 m' ys)])
                (hl := [(1001, .blk 46 [.ptr 1005 0]), (1002, .blk 3 [.val (vi lf)]), (1003, .blk 3 [.val (vi lt)]), (1004, .blk 46 [.ptr 1006 0]), (1005, sideA 1007 n ⟨a1, b1, c1, d1⟩), (1006, sideA 1008 m ⟨a2, b2, c2, d2⟩), (1007, .row 3 1 n' xs), (1008, .row 3 1 m' ys)])
                (vs := [.e (.agg [.val (vi a), .val (vi b), .val (vi c), .val (vi d)]), .e (.c (.ptr 1001 0)), .e (.c (.ptr 1002 0)), .e (.c (.ptr 1003 0)), .e (.c (.ptr 1004 0))])
                (v := .e (.c (.ptr (match B with | true => 1005 | false => 1006) 0)))
                Try.func19 rfl mixed Ty_ok sp20_ok hs rfl rfl hok ?_ ?_ ?_ ?_ ?_ ?_ ?_ ?_ rfl ?_ ?_
              · intro k A hk
                have hk' := lk_mem hk
                simp only [ids, List.mem_cons, List.not_mem_nil, or_false] at hk'
                rcases hk' with rfl | rfl | rfl | rfl | rfl | rfl | rfl | rfl <;> (cases hk; first | exact ⟨rfl, h1⟩ | exact ⟨rfl, h2⟩ | exact ⟨rfl, h3⟩ | exact ⟨rfl, h4⟩ | exact ⟨rfl, h5⟩ | exact ⟨rfl, h6⟩ | exact ⟨rfl, h7⟩ | exact ⟨rfl, h8⟩)
              · simp [SV.ids, SE.ids, SE.cells, csIds, SC.ids, ids]
              · simp [hIds, Atom.ids, sideA, csIds, SC.ids, ids]
              · exact tau_inj (l := [(1001, pa), (1002, pl), (1003, pt), (1004, pb), (1005, sa), (1006, sb), (1007, ya), (1008, yb)]) h9
              · exact fun x hx => hx
              · simp [hIds, Atom.ids, sideA, csIds, SC.ids, ids]
              · cases B <;> simp [SV.ids, SE.ids, SE.cells, csIds, SC.ids, ids]
              · exact fun x hx hn => absurd hx hn
              · cases B <;> rfl
              · intro Fc hFc
                refine ⟨by kernel_rfl, ?_⟩
                refine ⟨fun h11 => ?_, fun h11 => ?_⟩
                · obtain rfl : B = true := by rw [← hB]; simp [chA, h11]
                  exact ⟨fun k => k, by kernel_rfl, by kernel_rfl, ⟨by kernel_rfl, trivial⟩, ⟨by kernel_rfl, by kernel_rfl, by kernel_rfl, by kernel_rfl, by kernel_rfl, by kernel_rfl, by kernel_rfl, by kernel_rfl, trivial⟩, by kernel_rfl, by kernel_rfl, by kernel_rfl⟩
                refine ⟨by kernel_rfl, ?_⟩
                refine ⟨fun h12 => ?_, fun h12 => ?_⟩
                · obtain rfl : B = false := by rw [← hB]; simp [chA, h11, h12]
                  exact ⟨fun k => k, by kernel_rfl, by kernel_rfl, ⟨by kernel_rfl, trivial⟩, ⟨by kernel_rfl, by kernel_rfl, by kernel_rfl, by kernel_rfl, by kernel_rfl, by kernel_rfl, by kernel_rfl, by kernel_rfl, trivial⟩, by kernel_rfl, by kernel_rfl, by kernel_rfl⟩
                refine ⟨by kernel_rfl, ?_⟩
                refine ⟨fun h13 => ?_, fun h13 => ?_⟩
                · obtain rfl : B = true := by rw [← hB]; simp [chA, h11, h12, h13]
                  exact ⟨fun k => k, by kernel_rfl, by kernel_rfl, ⟨by kernel_rfl, trivial⟩, ⟨by kernel_rfl, by kernel_rfl, by kernel_rfl, by kernel_rfl, by kernel_rfl, by kernel_rfl, by kernel_rfl, by kernel_rfl, trivial⟩, by kernel_rfl, by kernel_rfl, by kernel_rfl⟩
                refine ⟨by kernel_rfl, ?_⟩
                refine ⟨fun h14 => ?_, fun h14 => ?_⟩
                · obtain rfl : B = false := by rw [← hB]; simp [chA, h11, h12, h13, h14]
                  exact ⟨fun k => k, by kernel_rfl, by kernel_rfl, ⟨by kernel_rfl, trivial⟩, ⟨by kernel_rfl, by kernel_rfl, by kernel_rfl, by kernel_rfl, by kernel_rfl, by kernel_rfl, by kernel_rfl, by kernel_rfl, trivial⟩, by kernel_rfl, by kernel_rfl, by kernel_rfl⟩
                refine ⟨by kernel_rfl, ?_⟩
                refine ⟨fun h15 => ?_, fun h15 => ?_⟩
                · obtain rfl : B = true := by rw [← hB]; simp [chA, h11, h12, h13, h14, h15]
                  exact ⟨fun k => k, by kernel_rfl, by kernel_rfl, ⟨by kernel_rfl, trivial⟩, ⟨by kernel_rfl, by kernel_rfl, by kernel_rfl, by kernel_rfl, by kernel_rfl, by kernel_rfl, by kernel_rfl, by kernel_rfl, trivial⟩, by kernel_rfl, by kernel_rfl, by kernel_rfl⟩
                · obtain rfl : B = false := by rw [← hB]; simp [chA, h11, h12, h13, h14, h15]
                  exact ⟨fun k => k, by kernel_rfl, by kernel_rfl, ⟨by kernel_rfl, trivial⟩, ⟨by kernel_rfl, by kernel_rfl, by kernel_rfl, by kernel_rfl, by kernel_rfl, by kernel_rfl, by kernel_rfl, by kernel_rfl, trivial⟩, by kernel_rfl, by kernel_rfl, by kernel_rfl⟩
            simp only [Alt.has] at hal
            rcases hal with ⟨hb, rfl⟩ | ⟨hb, rfl⟩
            · exact key true hb rfl
            · exact key false hb rfl
          · cases hg
        · cases hg
      · cases hg
    · cases hg
def sp21 : Specs := consSp 19 chooseG sp20
theorem sp21_ok : SpecsOK Try.prog sp21 := specs_cons choose_ok sp20_ok
end Go.Proofs.Ytemoagpahhdoeaa
