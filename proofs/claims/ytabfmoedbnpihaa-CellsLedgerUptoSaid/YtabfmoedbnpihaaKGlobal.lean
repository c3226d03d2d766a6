/- A step towards the laws on the cells of a run: the contracts of global and Global. No conditions of its own beyond those that its theorems name. -/
import Derived.Test.YtabfmoedbnpihaaKStore
namespace Go.Proofs.Ytabfmoedbnpihaa
open Go.RowKit Go.MapKept

def PM.gerr (M : PM) (i : Int) : Int := if i < 0 ∨ (M.globals.length : Int) ≤ i then 1 else 0
def PM.global (M : PM) (i : Int) : Int × Int := if i < 0 then (0, 0) else M.globals.getD i.toNat (0, 0)
def PM.setGlobalErr (M : PM) (i : Int) (y : Int × Int) : Int := if M.gerr i = 1 ∨ rightB M.made y = false then 1 else 0
def PM.setGlobal (M : PM) (i : Int) (y : Int × Int) : PM := if M.setGlobalErr i y = 0 then { M with globals := M.globals.set i.toNat y } else M

set_option maxRecDepth 100000 in
set_option maxHeartbeats 400000 in
theorem gl_bad (w : World) (p gb ng : Nat) (cv mv fv : Value) (i : Int) (h : w.heap[p]? = some (.cells #[.slice (some ⟨gb, 0, none⟩) ng ng, cv, mv, fv] 66 (0, 0))) (hi : i < 0 ∨ (ng : Int) ≤ i) :
    Calls Try.prog 32 #[.pointer (some ⟨p, 0, none⟩), .int .i64 i] w fun e w' => e = .returned (.pointer none) ∧ w = w' := by
  have c0 : w.cell? ⟨p, 0, none⟩ = some (.slice (some ⟨gb, 0, none⟩) ng ng) := blk_cell h rfl
  rcases hi with hi | hi
  · have b0 : decide (i < 0) = true := by simp [hi]
    go_enter Try.func32, Try.ntmps32
    go_wp2
    go_ret
    exact ⟨rfl, rfl⟩
  · have b0 : decide (i < 0) = false := by simp; omega
    have b1 : decide (i ≥ ng) = true := by simp; omega
    go_enter Try.func32, Try.ntmps32
    go_wp2
    go_ret
    exact ⟨rfl, rfl⟩

set_option maxRecDepth 100000 in
set_option maxHeartbeats 400000 in
theorem gl_good (w : World) (p gb ng : Nat) (cv mv fv : Value) (i : Nat) (h : w.heap[p]? = some (.cells #[.slice (some ⟨gb, 0, none⟩) ng ng, cv, mv, fv] 66 (0, 0))) (hi : i < ng) :
    Calls Try.prog 32 #[.pointer (some ⟨p, 0, none⟩), .int .i64 i] w fun e w' => e = .returned (.pointer (some ⟨gb, i * 2, none⟩)) ∧ w = w' := by
  have c0 : w.cell? ⟨p, 0, none⟩ = some (.slice (some ⟨gb, 0, none⟩) ng ng) := blk_cell h rfl
  have b0 : decide ((i : Int) < 0) = false := by simp
  have b1 : decide ((i : Int) ≥ ng) = false := by simp; omega
  go_enter Try.func32, Try.ntmps32
  go_wp2
  go_ret
  exact ⟨rfl, rfl⟩

set_option maxRecDepth 100000 in
set_option maxHeartbeats 400000 in
theorem global_any {w : World} {p : Nat} {lab : Lab} {M : PM} (h : MemAt w p lab M) (i : Int) :
    Calls Try.prog 18 #[.pointer (some ⟨p, 0, none⟩), .int .i64 i] w fun e w' => e = .returned (.tuple #[vv (M.global i), .int .i64 (M.gerr i)]) ∧ Fresh w w' := by
  obtain ⟨gb, bm, fv, vs, f, h⟩ := h
  by_cases hi : i < 0 ∨ (M.globals.length : Int) ≤ i
  · have e1 : M.global i = (0, 0) := by
      unfold PM.global
      split
      · rfl
      · simp; rw [List.getElem?_eq_none (by omega)]; rfl
    have e2 : M.gerr i = 1 := by unfold PM.gerr; rw [if_pos hi]
    rw [e1, e2]
    have HC := Lib.hid (fun o => gl_bad (w.alloc o) p gb M.globals.length _ _ _ i (blk_alloc h.self o) hi)
    clear h hi e1 e2
    go_enter Try.func18, Try.ntmps18
    go_wp2_with (go_at_call 32; refine (HC.out _).mono ?_; rintro e w1 ⟨rfl, rfl⟩)
    refine bodyPost_ret (v := .tuple #[vv (0, 0), .int .i64 1]) ?_ rfl ⟨rfl, ?_⟩
    · simp [results, Try.results18, go_sem]
    · repeat (first | exact Only.refl _ _ | refine Only.drew ?_ | refine Only.alloc ?_ _ | refine Only.setCell ?_ (.inr (by simp)) _)
  · obtain ⟨j, rfl⟩ := Int.eq_ofNat_of_zero_le (a := i) (by omega)
    have hj : j < M.globals.length := by omega
    have e1 : M.global j = M.globals[j] := by
      unfold PM.global
      rw [if_neg (by omega)]
      simp [hj]
    have e2 : M.gerr j = 0 := by unfold PM.gerr; rw [if_neg hi]
    rw [e1, e2]
    have hfl := flat_get (List.getElem?_eq_getElem hj)
    have HC := Lib.hid (fun o => gl_good (w.alloc o) p gb M.globals.length _ _ _ j (blk_alloc h.self o) hj)
    have HG := Lib.hid h.glob
    have hgl := blk_lt h.glob
    generalize M.globals[j] = x at *
    obtain ⟨a, b⟩ := x
    have hc0 : w.cell? ⟨gb, j * 2, none⟩ = some (.int .i64 a) := blk_cell h.glob (by rw [Nat.mul_comm]; simpa using hfl.1)
    have hc1 : w.cell? ⟨gb, j * 2 + 1, none⟩ = some (.int .i64 b) := blk_cell h.glob (by rw [Nat.mul_comm]; simpa using hfl.2)
    clear h hi e1 e2 hfl
    go_enter Try.func18, Try.ntmps18
    go_wp2_with (go_at_call 32; refine (HC.out _).mono ?_; rintro e w1 ⟨rfl, rfl⟩)
    refine bodyPost_ret (v := .tuple #[vv (a, b), .int .i64 0]) ?_ rfl ⟨rfl, ?_⟩
    · simp [results, Try.results18, go_sem]
    · repeat (first | exact Only.refl _ _ | refine Only.drew ?_ | refine Only.alloc ?_ _ | refine Only.setCell ?_ (.inr (by simp)) _)
end Go.Proofs.Ytabfmoedbnpihaa
