/- A step towards the laws on the cells of a run: the contract of SetGlobal. No conditions of its own beyond those that its theorems name. -/
import Derived.Test.YtabfmoedbnpihaaKGlobal
namespace Go.Proofs.Ytabfmoedbnpihaa
open Go.RowKit Go.MapKept

theorem lab_ne {lab : Lab} {b c : Nat} {r s : Nat × Int} (hb : lab b = some r) (hc : lab c = some s) (h : r ≠ s) : ¬ b = c := by
  rintro rfl
  rw [hb] at hc
  injection hc with hc
  exact h hc

theorem MemIs.setGlobal {w w1 : World} {p : Nat} {lab : Lab} {M : PM} {gb bm : Nat} {fv : Value} {vs : List Value} {f : Int → Option Value} (h : MemIs w p lab M gb bm fv vs f) {j : Nat} (y : Int × Int)
    (hj : j < M.globals.length) (ho : Only w w1 fun b => b = gb)
    (hb1 : w1.heap[gb]? = some (.cells (((flat M.globals).toArray.setIfInBounds (j * 2) (.int .i64 y.1)).setIfInBounds (j * 2 + 1) (.int .i64 y.2)) 32 (0, 0))) :
    MemIs w1 p lab { M with globals := M.globals.set j y } gb bm fv vs f := by
  have hl : (M.globals.set j y).length = M.globals.length := by simp
  constructor
  · dsimp only
    rw [hl]
    exact ho.blk h.self (lab_ne h.lself h.lglob (by simp))
  · exact h.lself
  · rw [hb1]
    dsimp only
    rw [← flat_set y hj]
    simp [Nat.mul_comm]
  · exact h.lglob
  · exact h.map.only ho (lab_ne h.lmap h.lglob (by simp))
  · exact h.lmap
  · intro k
    exact (h.cells k).only ho fun c hc => lab_ne hc h.lglob (by simp)
  · exact ho.row h.outer fun g hg => lab_ne (h.louter g hg) h.lglob (by simp)
  · exact h.louter
  · exact h.len
  · intro i l' hi
    obtain ⟨v, h1, h2, h3⟩ := h.inner i l' hi
    exact ⟨v, h1, ho.row h2 fun g hg => lab_ne (h3 g hg) h.lglob (by simp), h3⟩
  · exact fun b hb' => Nat.lt_of_lt_of_le (h.old b hb') ho.size

set_option maxRecDepth 100000 in
set_option maxHeartbeats 1000000 in
theorem setGlobal_any {w : World} {p : Nat} {lab : Lab} {M : PM} (h : MemAt w p lab M) (i : Int) (y : Int × Int) :
    Calls Try.prog 16 #[.pointer (some ⟨p, 0, none⟩), .int .i64 i, vv y] w fun e w' => e = .returned (.int .i64 (M.setGlobalErr i y)) ∧ MemAt w' p lab (M.setGlobal i y) ∧ Only w w' fun b => lab b ≠ none := by
  obtain ⟨gb, bm, fv, vs, f, h⟩ := h
  obtain ⟨a, b⟩ := y
  by_cases hi : i < 0 ∨ (M.globals.length : Int) ≤ i
  · have e1 : M.setGlobalErr i (a, b) = 1 := by unfold PM.setGlobalErr; rw [if_pos (.inl (by unfold PM.gerr; rw [if_pos hi]))]
    have e2 : M.setGlobal i (a, b) = M := by unfold PM.setGlobal; rw [if_neg (by rw [e1]; decide)]
    rw [e1, e2]
    have HC := Lib.hid (fun o => gl_bad (w.alloc o) p gb M.globals.length _ _ _ i (blk_alloc h.self o) hi)
    have HM := Lib.hid (fun o => MemAt.alloc ⟨gb, bm, fv, vs, f, h⟩ o)
    clear h hi e1 e2
    go_enter Try.func16, Try.ntmps16
    go_wp2_with (go_at_call 32; refine (HC.out _).mono ?_; rintro e w1 ⟨rfl, rfl⟩)
    go_ret
    exact ⟨rfl, HM.out _, (Only.refl _ _).alloc _⟩
  · obtain ⟨j, rfl⟩ := Int.eq_ofNat_of_zero_le (a := i) (by omega)
    have hj : j < M.globals.length := by omega
    have HC := Lib.hid (fun o => gl_good (w.alloc o) p gb M.globals.length _ _ _ j (blk_alloc h.self o) hj)
    have HR := Lib.hid (fun o => right_any (w.alloc o) p _ _ _ M.made a b (blk_alloc h.self o))
    by_cases hr : rightB M.made (a, b) = false
    · have e1 : M.setGlobalErr j (a, b) = 1 := by unfold PM.setGlobalErr; rw [if_pos (.inr hr)]
      have e2 : M.setGlobal j (a, b) = M := by unfold PM.setGlobal; rw [if_neg (by rw [e1]; decide)]
      rw [e1, e2]
      have HM := Lib.hid (fun o => MemAt.alloc ⟨gb, bm, fv, vs, f, h⟩ o)
      clear h hi e1 e2
      go_enter Try.func16, Try.ntmps16
      go_wp2_with (first | (go_at_call 32; refine (HC.out _).mono ?_; rintro e w1 ⟨rfl, rfl⟩) | (go_at_call 30; refine (HR.out _).mono ?_; rintro e w1 ⟨rfl, ho⟩))
      go_ret
      exact ⟨rfl, (HM.out _).fresh ho, ((Only.refl _ _).alloc _).trans ho fun _ q => q.elim⟩
    · have hr' : rightB M.made (a, b) = true := by simpa using hr
      have e1 : M.setGlobalErr j (a, b) = 0 := by
        unfold PM.setGlobalErr
        rw [if_neg]
        rintro (q | q)
        · unfold PM.gerr at q
          rw [if_neg hi] at q
          cases q
        · exact hr q
      have e2 : M.setGlobal j (a, b) = { M with globals := M.globals.set j (a, b) } := by unfold PM.setGlobal; rw [if_pos e1]; simp
      rw [e1, e2]
      have hfl := flat_get (List.getElem?_eq_getElem hj)
      have hE : ∀ W, Fresh w W → MemAt ((W.setCell ⟨gb, j * 2, none⟩ (.int .i64 a)).setCell ⟨gb, j * 2 + 1, none⟩ (.int .i64 b)) p lab { M with globals := M.globals.set j (a, b) } ∧ Only w ((W.setCell ⟨gb, j * 2, none⟩ (.int .i64 a)).setCell ⟨gb, j * 2 + 1, none⟩ (.int .i64 b)) fun b => lab b ≠ none := by
        intro W ho
        have hs : lab gb ≠ none := by simp [h.lglob]
        exact ⟨⟨gb, bm, fv, vs, f, (h.fresh ho).setGlobal (a, b) hj (((Only.refl W (fun b => b = gb)).setCell (p := ⟨gb, j * 2, none⟩) (.inl rfl) _).setCell (p := ⟨gb, j * 2 + 1, none⟩) (.inl rfl) _) (blk_set (blk_set (ho.cell h.glob) _ _) _ _)⟩,
          ((ho.mono fun _ _ q => q.elim).setCell (.inl hs) _).setCell (.inl hs) _⟩
      have HE := Lib.hid hE
      have HF := Lib.hid hfl
      have HG := Lib.hid h.glob
      clear h hi e1 e2 hE hfl
      go_enter Try.func16, Try.ntmps16
      go_wp2_with (first | (go_at_call 32; refine (HC.out _).mono ?_; rintro e w1 ⟨rfl, rfl⟩) | (go_at_call 30; refine (HR.out _).mono ?_; rintro e w1 ⟨rfl, ho⟩; have hx1 := ho.cell (new_blk _); have hx2 : w1.cell? ⟨w.heap.size, 0, none⟩ = some (.int .i64 a) := blk_cell hx1 rfl; have hx3 : w1.cell? ⟨w.heap.size, 1, none⟩ = some (.int .i64 b) := blk_cell hx1 rfl; have hc := ho.cell (blk_alloc HG.out _); have hc0 := blk_cell hc (i := j * 2) (by rw [Nat.mul_comm]; simpa using HF.out.1); have hc1 := blk_cell hc (i := j * 2 + 1) (by rw [Nat.mul_comm]; simpa using HF.out.2); have hc2 := blk_frozen hc (j * 2); have hc3 := blk_frozen hc (j * 2 + 1)))
      go_ret
      exact ⟨rfl, HE.out w1 (((Only.refl _ _).alloc _).trans' ho)⟩
end Go.Proofs.Ytabfmoedbnpihaa
