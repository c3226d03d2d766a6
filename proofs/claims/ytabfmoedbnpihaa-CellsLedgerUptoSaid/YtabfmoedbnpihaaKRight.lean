/- A step towards the laws on the cells of a run: is a value one of a memory: the contract of right. No conditions of its own beyond those that its theorems name. -/
import Derived.Test.YtabfmoedbnpihaaKMem
import Derived.Deep.QuietTactic
import Derived.BigQuiet
namespace Go.Proofs.Ytabfmoedbnpihaa
open Go.RowKit Go.MapKept

/-- is the value one of a memory with so many cells made? -/
def rightB (md : Nat) (x : Int × Int) : Bool := if x.1 = 0 then decide (x.2 = 0) else if x.1 = 2 then decide (1 ≤ x.2 ∧ x.2 ≤ md) else decide (x.1 = 1)
abbrev Fresh (w w' : World) : Prop := Only w w' fun _ => False
abbrev vv (x : Int × Int) : Value := .agg #[.int .i64 x.1, .int .i64 x.2]

set_option maxRecDepth 100000 in
set_option maxHeartbeats 400000 in
theorem right_any (w : World) (p : Nat) (gv cv fv : Value) (md : Nat) (k n : Int)
    (h : w.heap[p]? = some (.cells #[gv, cv, .int .i64 md, fv] 66 (0, 0))) :
    Calls Try.prog 30 #[.pointer (some ⟨p, 0, none⟩), vv (k, n)] w fun e w' => e = .returned (.bool (rightB md (k, n))) ∧ Fresh w w' := by
  have c2 : w.cell? ⟨p, 2, none⟩ = some (.int .i64 md) := blk_cell h rfl
  have hp := blk_lt h
  by_cases h0 : k = 0
  · subst h0
    go_enter Try.func30, Try.ntmps30
    go_wp2
    go_ret
    exact ⟨by simp [rightB]; rfl, (Only.refl _ _).alloc _⟩
  · have b0 : (k == 0) = false := by simp [h0]
    by_cases h2 : k = 2
    · subst h2
      by_cases h1 : 1 ≤ n
      · have d1 : decide (1 ≤ n) = true := by simp [h1]
        have d1' : decide (n ≥ 1) = true := by simp [h1]
        go_enter Try.func30, Try.ntmps30
        go_wp2_with fail
        go_quiet (fail)
        go_wp2_with fail
        go_ret
        exact ⟨by simp [rightB, h1], ((Only.refl _ _).alloc _).drewN _⟩
      · have d1 : decide (1 ≤ n) = false := by simp [h1]
        have d1' : decide (n ≥ 1) = false := by simp [h1]
        go_enter Try.func30, Try.ntmps30
        go_wp2_with fail
        go_quiet (fail)
        go_wp2_with fail
        go_ret
        exact ⟨by simp [rightB]; omega, ((Only.refl _ _).alloc _).drewN _⟩
    · have b2 : (k == 2) = false := by simp [h2]
      go_enter Try.func30, Try.ntmps30
      go_wp2
      go_ret
      exact ⟨by simp [rightB, h0, h2]; rfl, (Only.refl _ _).alloc _⟩
end Go.Proofs.Ytabfmoedbnpihaa
