/- A step towards the laws on the cells of a run: the contract of Push. No conditions of its own beyond those that its theorems name. -/
import Derived.Test.YtabfmoedbnpihaaKSetGlobal
namespace Go.Proofs.Ytabfmoedbnpihaa
open Go.RowKit Go.MapKept

theorem infoInts : (Try.prog.info? 39).map (fun i => (i.zero, i.size, i.bytes)) = some (some (.slice none 0 0), 1, 24) := by kernel_rfl
theorem infoInt : (Try.prog.info? 3).map (fun i => (i.zero, i.size, i.bytes)) = some (some (.int .i64 0), 1, 8) := by kernel_rfl

def relab (lab : Lab) (row : Option Nat) (r : Nat × Int) : Lab := fun b => if row = some b then some r else lab b
theorem relab_at (lab : Lab) {row : Option Nat} {r : Nat × Int} {b : Nat} (h : row = some b) : relab lab row r b = some r := by unfold relab; rw [if_pos h]
/-- a row that was one's own, or is new, under its name -/
theorem relab_keep {lab : Lab} {row v : Option Nat} {r : Nat × Int} {n : Nat} (hrow : row = v ∨ ∃ g, n ≤ g ∧ row = some g) (hv : ∀ g, v = some g → lab g = some r) (hold : ∀ b, lab b ≠ none → b < n) (b : Nat) (hb : lab b ≠ none) : relab lab row r b = lab b := by
  unfold relab
  split
  · rename_i e
    rcases hrow with q | ⟨g, hg, q⟩
    · exact (hv b (by rw [← q, e])).symm
    · rw [q] at e
      injection e with e
      have := hold b hb
      omega
  · rfl
theorem relab_new {lab : Lab} {row v : Option Nat} {r : Nat × Int} {n : Nat} (hrow : row = v ∨ ∃ g, n ≤ g ∧ row = some g) (hv : ∀ g, v = some g → lab g = some r) (b : Nat) (hb : relab lab row r b ≠ none) : lab b ≠ none ∨ n ≤ b := by
  unfold relab at hb
  split at hb
  · rename_i e
    rcases hrow with q | ⟨g, hg, q⟩
    · exact .inl (by rw [hv b (by rw [← q, e])]; simp)
    · rw [q] at e
      injection e with e
      exact .inr (by omega)
  · exact .inl hb
theorem relab_lt {lab : Lab} {row : Option Nat} {r : Nat × Int} {n m : Nat} (hnm : n ≤ m) (hrow : ∀ g, row = some g → g < m) (hold : ∀ b, lab b ≠ none → b < n) (b : Nat) (hb : relab lab row r b ≠ none) : b < m := by
  unfold relab at hb
  split at hb
  · rename_i e
    exact hrow b e
  · have := hold b hb; omega

set_option maxRecDepth 100000 in
set_option maxHeartbeats 400000 in
theorem push_walk (w : World) (p gb bm : Nat) (ng : Nat) (md : Nat) (fv : Value) (vs : List Value)
    (h : w.heap[p]? = some (.cells #[.slice (some ⟨gb, 0, none⟩) ng ng, .map (some bm), .int .i64 md, fv] 66 (0, 0)))
    (ho : w.ownsRow 0 39 1 fv vs.length vs) (hn : vs.length < Lim) (hne : ∀ g, fv.ownBlock = some g → g ≠ p) :
    Calls Try.prog 12 #[.pointer (some ⟨p, 0, none⟩)] w fun e w' => e = .returned (.int .i64 0) ∧ ∃ A C w1, w1.ownsRow 0 39 1 (.slice A (vs.length + 1) C) (vs.length + 1) (vs ++ [.slice none 0 0]) ∧ w.grownBy w1 fv.ownBlock ∧
      (A.map Addr.block = fv.ownBlock ∨ ∃ g, w.heap.size ≤ g ∧ A.map Addr.block = some g) ∧ w' = w1.setCell ⟨p, 3, none⟩ (.slice A (vs.length + 1) C) := by
  have c3 : w.cell? ⟨p, 3, none⟩ = some fv := blk_cell h rfl
  have hp : p < w.heap.size := blk_lt h
  obtain ⟨i0, hi, hz0, hz1, hz2⟩ := info_parts infoInts
  have H := Lib.hid h
  clear h
  go_enter Try.func12, Try.ntmps12
  go_wp2_with (at_builtin; go_must (refine wpl_app _ rfl _ _ 60 rfl 0 39 i0 (.slice none 0 0) 1 24 Try.underlying60 hi hz0 hz1 hz2 rfl (by decide) fv vs.length vs rfl (ho.alloc _) w.heap.size 1 1 [.slice none 0 0] 39 (0, 0) rfl (new_blk _) rfl (by simp [Value.oneCell']) (by unfold Lim at hn; unfold maxLen; omega) (by unfold Lim at hn; omega) (Nat.zero_le _) ?_); intro A C w1 hown hgrow hat; obtain ⟨hc1, hf1⟩ := kept_blk (blk_alloc H.out _) hgrow (fun e => hne p e.symm rfl) 3 fv rfl; have HA := Lib.hid hat; clear hat)
  go_ret
  refine ⟨rfl, _, _, w1, hown, alloc_grown hgrow, ?_, rfl⟩
  rcases HA.out with q | q
  · exact .inl q
  · exact .inr ⟨_, by simp, q⟩

def PM.push (M : PM) : PM := { M with frames := M.frames ++ [[]] }

theorem push_any {w : World} {p : Nat} {lab : Lab} {M : PM} (h : MemAt w p lab M) (hn : M.frames.length < Lim) :
    Calls Try.prog 12 #[.pointer (some ⟨p, 0, none⟩)] w fun e w' => e = .returned (.int .i64 0) ∧ ∃ lab', MemAt w' p lab' M.push ∧ Ext w w' lab lab' := by
  obtain ⟨gb, bm, fv, vs, f, h⟩ := h
  have hne : ∀ g, fv.ownBlock = some g → g ≠ p := fun g hg => lab_ne (h.louter g hg) h.lself (by simp)
  refine (push_walk w p gb bm _ _ fv vs h.self h.outer (by rw [h.len]; exact hn) hne).mono ?_
  rintro e w' ⟨rfl, A, C, w1, hown, hgrow, hat, rfl⟩
  refine ⟨rfl, relab lab (A.map Addr.block) (3, 0), ?_, ?_⟩
  · have hl := relab_keep hat h.louter h.old
    have ho : Only w w1 fun b => lab b = some (3, 0) := Only.of_grown hgrow fun g hg => h.louter g hg
    have ho' : Only w (w1.setCell ⟨p, 3, none⟩ (.slice A (vs.length + 1) C)) fun b => lab b = some (3, 0) ∨ lab b = some (0, 0) := (ho.mono fun _ _ q => .inl q).setCell (.inl (.inr h.lself)) _
    have hAp : A.map Addr.block ≠ some p := by
      intro q
      rcases hat with e | ⟨g, hg, e⟩
      · exact hne p (by rw [← e, q]) rfl
      · rw [q] at e
        injection e with e
        have := blk_lt h.self
        omega
    have hown' := own_far hown (a := ⟨p, 3, none⟩) (by rw [own_map]; exact hAp) (.slice A (vs.length + 1) C)
    have nm : ∀ {b : Nat} {r : Nat × Int}, lab b = some r → r ≠ (3, 0) → r ≠ (0, 0) → ¬ (lab b = some (3, 0) ∨ lab b = some (0, 0)) := by
      intro b r hb h1 h2 q
      rw [hb] at q
      rcases q with q | q <;> injection q with q
      · exact h1 q
      · exact h2 q
    have hk : ∀ {b : Nat} {r : Nat × Int}, lab b = some r → relab lab (A.map Addr.block) (3, 0) b = some r := fun hb => by rw [hl _ (by simp [hb]), hb]
    refine ⟨gb, bm, .slice A (vs.length + 1) C, vs ++ [.slice none 0 0], f, ?_⟩
    have hs := blk_set (blk_grown h.self hgrow (fun e => hne p e.symm rfl)) 3 (.slice A (vs.length + 1) C)
    constructor
    · exact hs
    · exact hk h.lself
    · exact ho'.blk h.glob (nm h.lglob (by simp) (by simp))
    · exact hk h.lglob
    · exact h.map.only ho' (nm h.lmap (by simp) (by simp))
    · exact hk h.lmap
    · intro k
      exact ((h.cells k).only ho' fun c hc => nm hc (by simp) (by simp)).relab hl
    · simpa using hown'
    · intro g hg
      exact relab_at lab (by rw [own_map] at hg; exact hg)
    · simp [PM.push, h.len]
    · intro i l hi
      by_cases hlt : i < M.frames.length
      · have hi' : M.frames[i]? = some l := by simpa [PM.push, List.getElem?_append_left hlt] using hi
        obtain ⟨v, h1, h2, h3⟩ := h.inner i l hi'
        refine ⟨v, ?_, ho'.row h2 fun g hg => nm (h3 g hg) (by simp) (by simp), fun g hg => hk (h3 g hg)⟩
        rw [List.getElem?_append_left (by rw [h.len]; exact hlt)]
        exact h1
      · have hi2 : i = M.frames.length := by
          have := (List.getElem?_eq_some_iff.1 hi).1
          simp [PM.push] at this
          omega
        subst hi2
        have : l = [] := by simpa [PM.push] using hi.symm
        subst this
        refine ⟨.slice none 0 0, ?_, World.ownsRow_nil _ _ _ _, fun g hg => by simp [Value.ownBlock] at hg⟩
        rw [← h.len]
        simp
    · exact relab_lt ho'.size (fun g hg => by
        have := own_lt hown' (g := g) (by rw [own_map]; exact hg)
        exact this) h.old
  · refine ⟨?_, relab_keep hat h.louter h.old, relab_new hat h.louter⟩
    exact (Only.of_grown hgrow fun g hg => by simp [h.louter g hg]).setCell (.inl (by simp [h.lself])) _
end Go.Proofs.Ytabfmoedbnpihaa
