/- A step towards the laws on the cells of a run: the contract of Load. No conditions of its own beyond those that its theorems name. -/
import Derived.Test.YtabfmoedbnpihaaKField
namespace Go.Proofs.Ytabfmoedbnpihaa
open Go.RowKit Go.MapKept

/-- what a load tells -/
def PM.load (M : PM) (x : Int × Int) (i : Int) : Int × Int :=
  if M.err x i = 0 then match M.cells x.2 with
    | some l => l.getD i.toNat (0, 0)
    | none => (0, 0)
  else (0, 0)
/-- a memory behind a store that was taken -/
def PM.put (M : PM) (x : Int × Int) (i : Int) (y : Int × Int) : PM :=
  { M with cells := fun k => if k = x.2 then (M.cells k).map fun l => l.set i.toNat y else M.cells k }
def PM.storeErr (M : PM) (x : Int × Int) (i : Int) (y : Int × Int) : Int := if rightB M.made y = false then 1 else M.err x i
def PM.store (M : PM) (x : Int × Int) (i : Int) (y : Int × Int) : PM := if M.storeErr x i y = 0 then M.put x i y else M

set_option maxRecDepth 100000 in
set_option maxHeartbeats 1000000 in
theorem load_bad {w : World} {p : Nat} {lab : Lab} {M : PM} (h : MemAt w p lab M) (x : Int × Int) (i : Int) (he : M.err x i ≠ 0) :
    Calls Try.prog 17 #[.pointer (some ⟨p, 0, none⟩), vv x, .int .i64 i] w fun e w' => e = .returned (.tuple #[vv (0, 0), .int .i64 (M.err x i)]) ∧ Fresh w w' := by
  have hq := fun o o' => field_bad (w := (w.alloc o).alloc o') ((h.only ((Only.refl _ (fun _ => False)).alloc o) fun _ _ q => q).only ((Only.refl _ (fun _ => False)).alloc o') fun _ _ q => q) x i he
  have hbe : (M.err x i != 0) = true := by simpa using he
  obtain ⟨k, n⟩ := x
  generalize M.err (k, n) i = r at *
  clear h he
  go_enter Try.func17, Try.ntmps17
  go_wp2_with (go_at_call 31; refine (hq _ _).mono ?_; rintro e w1 ⟨rfl, ho⟩; have hb : w1.heap[w.heap.size + 1]? = some (.cells #[.int .i64 0, .int .i64 0] 32 (0, 0)) := ho.cell (heap_alloc2_new w _ _); have hb0 : w1.cell? ⟨w.heap.size + 1, 0, none⟩ = some (.int .i64 0) := blk_cell hb rfl; have hb1 : w1.cell? ⟨w.heap.size + 1, 1, none⟩ = some (.int .i64 0) := blk_cell hb rfl; have hb2 := blk_frozen hb 0; have hb3 := blk_frozen hb 1)
  refine bodyPost_ret (v := .tuple #[vv (0, 0), .int .i64 r]) ?_ rfl ⟨rfl, ?_⟩
  · simp [results, Try.results17, go_sem, hb0, hb1]
  · repeat (first | exact (((Only.refl _ _).alloc _).alloc _).trans' ho | refine Only.drew ?_ | refine Only.alloc ?_ _ | refine Only.setCell ?_ (.inr (by simp)) _)

set_option maxRecDepth 100000 in
set_option maxHeartbeats 1000000 in
theorem load_good {w : World} {p : Nat} {lab : Lab} {M : PM} (h : MemAt w p lab M) (x y : Int × Int) (l : List (Int × Int)) (j : Nat) (he : M.err x j = 0) (hl : M.cells x.2 = some l) (hy : l[j]? = some y) :
    Calls Try.prog 17 #[.pointer (some ⟨p, 0, none⟩), vv x, .int .i64 j] w fun e w' => e = .returned (.tuple #[vv y, .int .i64 0]) ∧ Fresh w w' := by
  have hj := (List.getElem?_eq_some_iff.1 hy).1
  have hq := fun o o' => field_good (w := (w.alloc o).alloc o') ((h.only ((Only.refl _ (fun _ => False)).alloc o) fun _ _ q => q).only ((Only.refl _ (fun _ => False)).alloc o') fun _ _ q => q) x l j he hl hj
  obtain ⟨k, n⟩ := x
  obtain ⟨cb, hcb, hlab, hcall⟩ := hq (.cells #[.int .i64 k, .int .i64 n] 32) (.cells #[.int .i64 0, .int .i64 0] 32)
  have hfl := flat_get hy
  obtain ⟨a, b⟩ := y
  clear h he hl hy hj hq
  go_enter Try.func17, Try.ntmps17
  go_wp2_with (go_at_call 31; refine hcall.mono ?_; rintro e w1 ⟨rfl, ho⟩; have hb : w1.heap[w.heap.size + 1]? = some (.cells #[.int .i64 0, .int .i64 0] 32 (0, 0)) := ho.cell (heap_alloc2_new w _ _); have hb0 : w1.cell? ⟨w.heap.size + 1, 0, none⟩ = some (.int .i64 0) := blk_cell hb rfl; have hb1 : w1.cell? ⟨w.heap.size + 1, 1, none⟩ = some (.int .i64 0) := blk_cell hb rfl; have hb2 := blk_frozen hb 0; have hb3 := blk_frozen hb 1; have hc := ho.cell hcb; have hc0 : w1.cell? ⟨cb, j * 2, none⟩ = some (.int .i64 a) := blk_cell hc (by rw [Nat.mul_comm]; simpa using hfl.1); have hc1 : w1.cell? ⟨cb, j * 2 + 1, none⟩ = some (.int .i64 b) := blk_cell hc (by rw [Nat.mul_comm]; simpa using hfl.2))
  refine bodyPost_ret (v := .tuple #[vv (a, b), .int .i64 0]) ?_ rfl ⟨rfl, ?_⟩
  · simp [results, Try.results17, go_sem, hb0, hb1]
  · repeat (first | exact (((Only.refl _ _).alloc _).alloc _).trans' ho | refine Only.drew ?_ | refine Only.alloc ?_ _ | refine Only.setCell ?_ (.inr (by simp)) _)

theorem load_any {w : World} {p : Nat} {lab : Lab} {M : PM} (h : MemAt w p lab M) (x : Int × Int) (i : Int) :
    Calls Try.prog 17 #[.pointer (some ⟨p, 0, none⟩), vv x, .int .i64 i] w fun e w' => e = .returned (.tuple #[vv (M.load x i), .int .i64 (M.err x i)]) ∧ Fresh w w' := by
  by_cases he : M.err x i = 0
  · obtain ⟨_, _, l, hl, j, rfl, hj⟩ := err_good he
    have hy : l[j]? = some (M.load x j) := by
      unfold PM.load
      rw [if_pos he, hl]
      simp [hj]
    rw [he]
    exact load_good h x _ l j he hl hy
  · have e1 : M.load x i = (0, 0) := by unfold PM.load; rw [if_neg he]
    rw [e1]
    exact load_bad h x i he
end Go.Proofs.Ytabfmoedbnpihaa
