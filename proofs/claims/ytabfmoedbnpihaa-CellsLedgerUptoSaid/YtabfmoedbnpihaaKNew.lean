/- A step towards the laws on the cells of a run: the contract of New. No conditions of its own beyond those that its theorems name. -/
import Derived.Test.YtabfmoedbnpihaaKPop
import Derived.WalkLawsBesides
namespace Go.Proofs.Ytabfmoedbnpihaa
open Go.RowKit Go.MapKept

def newN (n : Int) : Nat := (max 0 (min n 16)).toNat
def PM.new (n : Int) : PM := { globals := List.replicate (newN n) (0, 0), cells := fun _ => none, made := 0, frames := [] }

/-- so many values, nil -/
def zeros (k : Nat) : Array Value := (flat (List.replicate k (0, 0))).toArray

set_option maxRecDepth 100000 in
set_option maxHeartbeats 1000000 in
theorem new_walk (w : World) (n : Int) (k : Nat) (hk : k = newN n) :
    Calls Try.prog 11 #[.int .i64 n] w fun e w' => e = .returned (.pointer (some ⟨w.heap.size + 2, 0, none⟩)) ∧
      ((w.alloc (.cells (zeros k) 32)).alloc (.map #[] 0)).alloc (.cells #[.slice (some ⟨w.heap.size, 0, none⟩) k k, .map (some (w.heap.size + 1)), .int .i64 0, .slice none 0 0] 66) = w' := by
  have hk16 : k ≤ 16 := by rw [hk]; unfold newN; omega
  have hmm := @run_makeMap Try.prog
  have hmk : ∀ w, (Instr.makeSlice 22 (.int .i64 (k : Int)) (.int .i64 (k : Int))).run Try.prog w = .ok (.slice (some ⟨w.heap.size, 0, none⟩) k k) (w.alloc (.cells (zeros k) 32)) := run_makeValues k hk16
  by_cases h0 : n ≤ 0
  · obtain rfl : k = 0 := by rw [hk]; unfold newN; omega
    clear hk
    have h1 : ¬ (16 : Int) < n := by omega
    have hmk' : ∀ w, (Instr.makeSlice 22 (.int .i64 0) (.int .i64 0)).run Try.prog w = .ok (.slice (some ⟨w.heap.size, 0, none⟩) 0 0) (w.alloc (.cells (zeros 0) 32)) := hmk
    clear hmk
    go_enter Try.func11, Try.ntmps11
    go_wp2
    go_ret
    exact ⟨rfl, rfl⟩
  · by_cases h16 : 16 < n
    · obtain rfl : k = 16 := by rw [hk]; unfold newN; omega
      clear hk
      have hmk' : ∀ w, (Instr.makeSlice 22 (.int .i64 16) (.int .i64 16)).run Try.prog w = .ok (.slice (some ⟨w.heap.size, 0, none⟩) 16 16) (w.alloc (.cells (zeros 16) 32)) := hmk
      clear hmk
      go_enter Try.func11, Try.ntmps11
      go_wp2
      go_ret
      exact ⟨rfl, rfl⟩
    · obtain rfl : n = (k : Int) := by rw [hk]; unfold newN; omega
      clear hk
      have h1 : ¬ (16 : Int) < (k : Int) := by omega
      have h2 : (0 : Int) < (k : Int) := by omega
      go_enter Try.func11, Try.ntmps11
      go_wp2
      go_ret
      exact ⟨rfl, rfl⟩

theorem new_any (w : World) (n : Int) :
    Calls Try.prog 11 #[.int .i64 n] w fun e w' => ∃ p lab, e = .returned (.pointer (some ⟨p, 0, none⟩)) ∧ MemAt w' p lab (PM.new n) ∧ Fresh w w' ∧ ∀ b, lab b ≠ none → w.heap.size ≤ b := by
  refine (new_walk w n (newN n) rfl).mono ?_
  rintro e w' ⟨rfl, rfl⟩
  refine ⟨_, fun b => if b = w.heap.size + 2 then some (0, 0) else if b = w.heap.size then some (2, 0) else if b = w.heap.size + 1 then some (1, 0) else none, rfl, ⟨w.heap.size, w.heap.size + 1, .slice none 0 0, [], fun _ => none, ?_⟩, (((Only.refl _ _).alloc _).alloc _).alloc _, ?_⟩
  · have h0 := blk_alloc (blk_alloc (new_blk (w := w) (.cells (zeros (newN n)) 32)) (.map #[] 0)) (.cells #[.slice (some ⟨w.heap.size, 0, none⟩) (newN n) (newN n), .map (some (w.heap.size + 1)), .int .i64 0, .slice none 0 0] 66)
    have hsz : (w.alloc (.cells (zeros (newN n)) 32)).heap.size = w.heap.size + 1 := by simp
    have hm := IMap.made (w.alloc (.cells (zeros (newN n)) 32))
    rw [hsz] at hm
    have hlen : (PM.new n).globals.length = newN n := by simp [PM.new]
    constructor
    · rw [hlen]
      have := new_blk (w := (w.alloc (.cells (zeros (newN n)) 32)).alloc (.map #[] 0)) (.cells #[.slice (some ⟨w.heap.size, 0, none⟩) (newN n) (newN n), .map (some (w.heap.size + 1)), .int .i64 0, .slice none 0 0] 66)
      have e2 : ((w.alloc (.cells (zeros (newN n)) 32)).alloc (.map #[] 0)).heap.size = w.heap.size + 2 := by simp
      rw [e2] at this
      exact this
    · simp
    · exact h0
    · simp
    · exact hm.of_block (Below.heap_alloc _ _ _ (by simp))
    · simp
    · intro k
      trivial
    · exact World.ownsRow_nil _ _ _ _
    · intro g hg
      simp [Value.ownBlock] at hg
    · rfl
    · intro i l hi
      simp [PM.new] at hi
    · intro b hb
      have e3 : (((w.alloc (.cells (zeros (newN n)) 32)).alloc (.map #[] 0)).alloc (.cells #[.slice (some ⟨w.heap.size, 0, none⟩) (newN n) (newN n), .map (some (w.heap.size + 1)), .int .i64 0, .slice none 0 0] 66)).heap.size = w.heap.size + 3 := by simp
      rw [e3]
      by_cases h1 : b = w.heap.size + 2
      · omega
      · by_cases h2 : b = w.heap.size
        · omega
        · by_cases h3 : b = w.heap.size + 1
          · omega
          · simp [h1, h2, h3] at hb
  · intro b hb
    by_cases h1 : b = w.heap.size + 2
    · omega
    · by_cases h2 : b = w.heap.size
      · omega
      · by_cases h3 : b = w.heap.size + 1
        · omega
        · simp [h1, h2, h3] at hb
end Go.Proofs.Ytabfmoedbnpihaa
