/- A step towards the laws on the cells of a run: the plain law of CellsCopies. No conditions of its own beyond those that its theorems name. -/
import Derived.Test.YtabfmoedbnpihaaKFixed
import Derived.StillTailTactics
namespace Go.Proofs.Ytabfmoedbnpihaa
open Go.RowKit Go.MapKept

/-- a slice of values that came in -/
def Vals (w : World) (A : Option Addr) (n : Nat) (xs : List (Int × Int)) : Prop :=
  xs.length = n ∧ ∀ (i : Nat) (x : Int × Int), xs[i]? = some x → ∃ b o, A = some ⟨b, o, none⟩ ∧ b < w.heap.size ∧ w.cell? ⟨b, o + i * 2, none⟩ = some (.int .i64 x.1) ∧ w.cell? ⟨b, o + i * 2 + 1, none⟩ = some (.int .i64 x.2)

/-- what the memory of CellsCopies is, whatever was put into the cell -/
structure CInv (heap : Bool) (turn : Nat) (M : PM) : Prop where
  made : M.made = 2
  globals : M.globals = [(2, 2)]
  box : M.cells 1 = some [(2, 2)]
  cell : if turn ≥ 1 ∧ heap = false then M.cells 2 = none else ∃ l, M.cells 2 = some l
  frames : M.frames = if turn = 0 then [[], if heap = true then [] else [2]] else if turn = 1 then [[]] else []
theorem CInv.store {heap : Bool} {M : PM} (h : CInv heap 0 M) (i : Int) (y : Int × Int) : CInv heap 0 (M.store (2, 2) i y) := by
  unfold PM.store
  split
  · have h4 := h.cell
    rw [if_neg (by omega)] at h4
    obtain ⟨l, hl⟩ := h4
    exact ⟨h.made, h.globals, by simp [PM.put]; exact h.box, by rw [if_neg (by omega)]; exact ⟨_, by simp [PM.put, hl]; rfl⟩, h.frames⟩
  · exact h
theorem CInv.pop {heap : Bool} {M : PM} {turn : Nat} (h : CInv heap turn M) (ht : turn < 2) : CInv heap (turn + 1) M.pop := by
  have h5 := h.frames
  have h4 := h.cell
  have ht' : turn = 0 ∨ turn = 1 := by omega
  rcases ht' with rfl | rfl
  · rw [if_pos rfl] at h5
    rw [if_neg (by omega)] at h4
    obtain ⟨l, hl⟩ := h4
    cases heap
    · exact ⟨h.made, h.globals, by simp [PM.pop, h5, h.box], by simp [PM.pop, h5], by simp [PM.pop, h5]⟩
    · exact ⟨h.made, h.globals, by simp [PM.pop, h5, h.box], by simp [PM.pop, h5, hl], by simp [PM.pop, h5]⟩
  · rw [if_neg (by omega), if_pos rfl] at h5
    refine ⟨h.made, h.globals, by simp [PM.pop, h5, h.box], ?_, by simp [PM.pop, h5]⟩
    cases heap <;> simp at h4 <;> simp [PM.pop, h5, h4]
theorem CInv.load_box {heap : Bool} {M : PM} {turn : Nat} (h : CInv heap turn M) : M.load (2, 1) 0 = (2, 2) ∧ M.err (2, 1) 0 = 0 := by
  have he : M.err (2, 1) 0 = 0 := by simp [PM.err, rightB, h.made, h.box]
  exact ⟨by simp [PM.load, he, h.box], he⟩
theorem CInv.global {heap : Bool} {M : PM} {turn : Nat} (h : CInv heap turn M) : M.global 0 = (2, 2) ∧ M.gerr 0 = 0 := by
  simp [PM.global, PM.gerr, h.globals]
theorem CInv.err {heap : Bool} {M : PM} {turn : Nat} (h : CInv heap turn M) (k : Nat) (ht : turn < 2) : (M.err (2, 2) k == 32) = (decide (turn = 1) && !heap) := by
  have h4 := h.cell
  have ht' : turn = 0 ∨ turn = 1 := by omega
  rcases ht' with rfl | rfl
  · rw [if_neg (by omega)] at h4
    obtain ⟨l, hl⟩ := h4
    simp only [PM.err, rightB, h.made, hl]
    split <;> simp
    split <;> simp
  · cases heap
    · simp at h4
      simp [PM.err, rightB, h.made, h4]
    · simp at h4
      obtain ⟨l, hl⟩ := h4
      simp only [PM.err, rightB, h.made, hl]
      split <;> simp
      split <;> simp

def cp0 : PM := PM.new 1
def cp1 : PM := cp0.push
def cp2 : PM := cp1.make 1 true
def cp3 : PM := cp2.push
def cp4 (n : Int) (heap : Bool) : PM := cp3.make n heap
def cp5 (n : Int) (heap : Bool) : PM := (cp4 n heap).store (2, 1) 0 (2, 2)
def cp6 (n : Int) (heap : Bool) : PM := (cp5 n heap).setGlobal 0 (2, 2)
theorem cp_facts (n : Int) (heap : Bool) (h1 : 1 ≤ n) (h8 : n ≤ 8) : cp3.mkN n = 2 ∧ cp3.mkErr n = 0 ∧ (cp4 n heap).storeErr (2, 1) 0 (2, 2) = 0 ∧ (cp5 n heap).setGlobalErr 0 (2, 2) = 0 ∧ CInv heap 0 (cp6 n heap) := by
  have e : n = 1 ∨ n = 2 ∨ n = 3 ∨ n = 4 ∨ n = 5 ∨ n = 6 ∨ n = 7 ∨ n = 8 := by omega
  rcases e with rfl | rfl | rfl | rfl | rfl | rfl | rfl | rfl <;> cases heap <;> exact ⟨rfl, rfl, rfl, rfl, rfl, rfl, rfl, ⟨_, rfl⟩, rfl⟩
end Go.Proofs.Ytabfmoedbnpihaa
