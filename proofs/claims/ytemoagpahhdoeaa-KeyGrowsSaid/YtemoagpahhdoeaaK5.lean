/- A box put to a side. No condition. -/
import Derived.Test.YtemoagpahhdoeaaK4
namespace Go.Proofs.Ytemoagpahhdoeaa
open Go.Sy
set_option linter.unusedSimpArgs false
set_option linter.unusedVariables false
set_option maxRecDepth 100000

abbrev vi (n : Int) : Value := .int .i64 n
def sideA (y n : Nat) (k : Key) : Atom := .blk 48 [.sli y n, .val (vi k.x0), .val (vi k.x1), .val (vi k.y0), .val (vi k.y1)]

def putG : SpecG := fun F atm z vs => match vs with
  | [.e (.c (.ptr x 0)), .e (.c (.val (.int .i64 i))), .e (.agg [.val (.int .i64 a), .val (.int .i64 b), .val (.int .i64 c), .val (.int .i64 d)])] => match atm x with
    | some (.blk 48 [.sli y n, .val (.int .i64 a'), .val (.int .i64 b'), .val (.int .i64 c'), .val (.int .i64 d')]) => match atm y, atm z, Nat.beq x y with
      | some (.row 3 1 m xs), none, false => some (.one ⟨.p (m = n ∧ cRoom (n + 1) 8), .tup [], [(x, sideA z (n + 1) (uni ⟨a', b', c', d'⟩ ⟨a, b, c, d⟩)), (z, .row 3 1 (n + 1) (xs ++ [vi i])), (y, .gone)], []⟩)
      | _, _, _ => none
    | _ => none
  | _ => none

def τp (x y z : Nat) (k : Nat) : Nat := match Nat.beq k 1001 with
  | true => x
  | false => match Nat.beq k 1002 with
    | true => y
    | false => match Nat.beq k 1003 with
      | true => z
      | false => k

theorem put_ok : SpecOK Try.prog 20 putG := by
  refine ⟨⟨_, _, Try.func20, rfl, by kernel_rfl⟩, ?_, ?_⟩
  · intro F atm atm' z args al r hg hal _ hag
    unfold putG at hg
    split at hg
    · rename_i x i a b c d
      split at hg
      · rename_i y n a' b' c' d' h1
        split at hg
        · rename_i m xs h2 h3 h4
          cases hg
          simp only [Alt.has] at hal
          subst hal
          have e1 : atm' x = atm x := hag x (by simp [ids])
          have e2 : atm' y = atm y := hag y (by simp [ids])
          have e3 : atm' z = atm z := hag z (by simp [ids])
          refine ⟨.one _, ?_, rfl⟩
          simp only [putG, e1, e2, e3, h1, h2, h3, h4]
        · cases hg
      · cases hg
    · cases hg
  · intro F atm z args al r hg hal hc ρ h w hs hok
    unfold putG at hg
    split at hg
    · rename_i x i a b c d
      split at hg
      · rename_i y n a' b' c' d' h1
        split at hg
        · rename_i m xs h2 h3 h4
          cases hg
          simp only [Alt.has] at hal
          subst hal
          obtain ⟨rfl, hroom⟩ := hc
          have hxy : x ≠ y := Nat.ne_of_beq_eq_false h4
          have hzx : z ≠ x := fun e => by rw [e, h1] at h3; cases h3
          have hzy : z ≠ y := fun e => by rw [e, h2] at h3; cases h3
          refine own_out (n := 25) (τ := τp x y z) (rts := [(1001, sideA 1002 m ⟨a', b', c', d'⟩), (1002, .row 3 1 m xs)]) (vs := [.e (.c (.ptr 1001 0)), .e (.c (.val (vi i))), .e (.agg [.val (vi a), .val (vi b), .val (vi c), .val (vi d)])]) (v := .tup [])
            (hl := [(1001, sideA 1003 (m + 1) (uni ⟨a', b', c', d'⟩ ⟨a, b, c, d⟩)), (1003, .row 3 1 (m + 1) (xs ++ [vi i])), (1002, .gone)]) Try.func20 rfl mixed Ty_ok sp19_ok hs rfl rfl hok ?_ ?_ ?_ ?_ ?_ ?_ ?_ ?_ rfl rfl ?_
          · intro k A hk
            simp only [lk_cons, lk_nil] at hk
            split at hk
            · rename_i e; subst e; cases hk; exact ⟨rfl, h1⟩
            · split at hk
              · rename_i e; subst e; cases hk; exact ⟨rfl, h2⟩
              · cases hk
          · simp [SV.ids, SE.ids, SE.cells, csIds, SC.ids, ids]
          · simp [hIds, Atom.ids, sideA, csIds, SC.ids, ids]
          · simp [ids, τp, hxy, hzx, hzy, hxy.symm, hzx.symm, hzy.symm]
          · simp [ids]
          · simp [hIds, Atom.ids, sideA, csIds, SC.ids, ids]
          · simp [SV.ids, esIds]
          · simp [ids, τp, h3]
          · intro Fc hFc
            refine ⟨⟨rfl, rfl, hroom⟩, ?_⟩
            refine ⟨by kernel_rfl, ?_⟩
            exact ⟨fun k => match Nat.beq k 1003 with | true => 14 | false => k, by kernel_rfl, by kernel_rfl, ⟨by kernel_rfl, trivial⟩, ⟨by kernel_rfl, by kernel_rfl, by kernel_rfl, trivial⟩, by kernel_rfl, by kernel_rfl, by kernel_rfl⟩
        · cases hg
      · cases hg
    · cases hg
def sp20 : Specs := consSp 20 putG sp19
theorem sp20_ok : SpecsOK Try.prog sp20 := specs_cons put_ok sp19_ok
end Go.Proofs.Ytemoagpahhdoeaa
