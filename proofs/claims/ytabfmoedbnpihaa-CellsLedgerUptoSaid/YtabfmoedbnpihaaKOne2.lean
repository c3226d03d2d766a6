/- A step towards the laws on the cells of a run: one call of one memory (one), of any kind but Live and Drop. No conditions of its own beyond those that its theorems name. -/
import Derived.Test.YtabfmoedbnpihaaKOne
namespace Go.Proofs.Ytabfmoedbnpihaa
open Go.RowKit Go.MapKept

theorem one_any {w w1 : World} {p : Nat} {lab : Lab} {M : PM} (h : Own w w1 p lab M) (o : POp) (A : Option Addr) (ln cp : Nat) (hf : M.frames.length < Lim) (hmd : M.made < Lim) (hfl : ∀ l ∈ M.frames, l.length < Lim) (h9 : o.kind ≠ 9) (h10 : o.kind ≠ 10) :
    Calls Try.prog 26 #[.pointer (some ⟨p, 0, none⟩), o.val A ln cp] w1
      fun e w2 => e = .returned (.tuple #[.int .i64 (M.oneN o), vv (M.oneV o), .slice none 0 0, .int .i64 (M.oneE o)]) ∧ ∃ lab2, Own w w2 p lab2 (M.oneM o) ∧ Ext w1 w2 lab lab2 := by
  obtain ⟨k, on, n, heap, v, y, cs⟩ := o
  by_cases h2 : k = 2
  · subst h2; exact one_push h on n heap v y A ln cp hf
  by_cases h3 : k = 3
  · subst h3; exact one_pop h on n heap v y A ln cp hf hfl
  by_cases h4 : k = 4
  · subst h4; exact one_make h on n heap v y A ln cp hf hmd hfl
  by_cases h5 : k = 5
  · subst h5; exact one_load h on n heap v y A ln cp
  by_cases h6 : k = 6
  · subst h6; exact one_store h on n heap v y A ln cp
  by_cases h7 : k = 7
  · subst h7; exact one_global h on n heap v y A ln cp
  by_cases h8 : k = 8
  · subst h8; exact one_set h on n heap v y A ln cp
  have h9' : k ≠ 9 := h9
  have h10' : k ≠ 10 := h10
  simp only [PM.oneN, PM.oneV, PM.oneE, PM.oneM, if_neg h2, if_neg h3, if_neg h4, if_neg h5, if_neg h6, if_neg h7, if_neg h8, if_neg h10']
  exact one_other h on n heap v y A ln cp k (by simp [h2]) (by simp [h3]) (by simp [h4]) (by simp [h5]) (by simp [h6]) (by simp [h7]) (by simp [h8]) (by simp [h9']) (by simp [h10'])

/-- what the run of two memories keeps: the same but where cells lie; what the first has the second has -/
structure Sim (a b : PM) : Prop where
  made : a.made = b.made
  globals : a.globals = b.globals
  frames : a.frames.length = b.frames.length
  cells : ∀ k l, a.cells k = some l → b.cells k = some l
  keep : ∀ l ∈ b.frames, l = []
  all : ∀ k : Int, 1 ≤ k → k ≤ b.made → b.cells k ≠ none

theorem Sim.err {a b : PM} (h : Sim a b) (x : Int × Int) (i : Int) : b.err x i ≠ 32 ∧ (a.err x i = 32 ∨ (a.err x i = b.err x i ∧ a.load x i = b.load x i)) := by
  have hb : b.err x i ≠ 32 := by
    unfold PM.err
    split
    · simp
    split
    · simp
    rename_i hr h2
    have h2 : x.1 = 2 := Decidable.not_not.1 h2
    have hr' : rightB b.made x = true := by simpa using hr
    unfold rightB at hr'
    rw [if_neg (by omega), if_pos h2] at hr'
    simp only [decide_eq_true_eq] at hr'
    have hal := h.all x.2 hr'.1 hr'.2
    split
    · rename_i hn; exact absurd hn hal
    · split <;> simp
  refine ⟨hb, ?_⟩
  by_cases he : a.err x i = 32
  · exact .inl he
  refine .inr ?_
  have heq : a.err x i = b.err x i := by
    unfold PM.err at he ⊢
    rw [h.made] at he ⊢
    split
    · rfl
    split
    · rfl
    rename_i hr h2
    rw [if_neg hr, if_neg h2] at he
    cases ha : a.cells x.2 with
    | none => rw [ha] at he; simp at he
    | some l => rw [h.cells _ _ ha]
  refine ⟨heq, ?_⟩
  unfold PM.load
  rw [← heq]
  by_cases h0 : a.err x i = 0
  · rw [if_pos h0, if_pos h0]
    obtain ⟨_, _, l, hl, _⟩ := err_good h0
    rw [hl, h.cells _ _ hl]
  · rw [if_neg h0, if_neg h0]

def POp.onHeap (o : POp) : POp := { o with heap := true }

theorem getLast_nil {L : List (List Int)} (h : ∀ l ∈ L, l = []) : L.getLast?.getD [] = [] := by
  cases e : L.getLast? with
  | none => rfl
  | some l => exact h l (List.mem_of_getLast? e)

/-- one step of both -/
theorem Sim.one {a b : PM} (h : Sim a b) (o : POp) (h9 : o.kind ≠ 9) (h10 : o.kind ≠ 10) :
    b.oneE o.onHeap ≠ 32 ∧ (a.oneE o = 32 ∨ (a.oneN o = b.oneN o.onHeap ∧ a.oneV o = b.oneV o.onHeap ∧ a.oneE o = b.oneE o.onHeap ∧ Sim (a.oneM o) (b.oneM o.onHeap))) := by
  obtain ⟨k, on, n, heap, v, y, cs⟩ := o
  have h9' : k ≠ 9 := h9
  have h10' : k ≠ 10 := h10
  by_cases h2 : k = 2
  · subst h2
    refine ⟨by simp [PM.oneE, POp.onHeap], .inr ⟨rfl, rfl, rfl, ?_⟩⟩
    exact ⟨h.made, h.globals, by simp [PM.oneM, POp.onHeap, PM.push, h.frames], h.cells, by
      intro l hl
      simp [PM.oneM, POp.onHeap, PM.push] at hl
      rcases hl with hl | hl
      · exact h.keep l hl
      · exact hl, h.all⟩
  by_cases h3 : k = 3
  · subst h3
    refine ⟨by simp [PM.oneE, POp.onHeap, PM.popErr]; split <;> simp, .inr ⟨rfl, rfl, by simp [PM.oneE, POp.onHeap, PM.popErr, h.frames], ?_⟩⟩
    have hg := getLast_nil h.keep
    exact ⟨h.made, h.globals, by simp [PM.oneM, POp.onHeap, PM.pop, h.frames], fun k l hk => by
      simp only [PM.oneM, POp.onHeap, PM.pop, hg] at hk ⊢
      simp at hk ⊢
      exact h.cells k l hk.2, fun l hl => h.keep l (List.dropLast_subset _ (by simpa [PM.oneM, POp.onHeap, PM.pop] using hl)), fun k h1 h2 => by
      simp only [PM.oneM, POp.onHeap, PM.pop, hg]
      simp
      exact h.all k h1 h2⟩
  by_cases h4 : k = 4
  · subst h4
    have e1 : a.mkErr n = b.mkErr n := by simp [PM.mkErr, h.frames]
    refine ⟨(by show b.mkErr n ≠ 32; unfold PM.mkErr; split <;> (try split) <;> simp), .inr ⟨(by show a.mkN n = b.mkN n; unfold PM.mkN; rw [e1, h.made]), rfl, e1, ?_⟩⟩
    show Sim (a.make n heap) (b.make n true)
    unfold PM.make
    rw [e1]
    split
    · refine ⟨by simp [PM.mk', h.made], h.globals, ?_, ?_, ?_, ?_⟩
      · simp only [PM.mk', if_pos]
        split <;> simp [h.frames]
      · intro k l hk
        simp only [PM.mk', h.made] at hk ⊢
        split at hk
        · rename_i hk1; rw [if_pos hk1]; exact hk
        · rename_i hk1; rw [if_neg hk1]; exact h.cells k l hk
      · intro l hl
        exact h.keep l (by simpa [PM.mk'] using hl)
      · intro k h1 h2
        simp only [PM.mk'] at h2 ⊢
        split
        · simp
        · exact h.all k h1 (by push_cast at h2; omega)
    · exact h
  by_cases h5 : k = 5
  · subst h5
    obtain ⟨g1, g2⟩ := h.err v n
    exact ⟨g1, g2.imp id fun q => ⟨rfl, q.2, q.1, h⟩⟩
  by_cases h6 : k = 6
  · subst h6
    obtain ⟨g1, g2⟩ := h.err v n
    show b.storeErr v n y ≠ 32 ∧ (a.storeErr v n y = 32 ∨ (_ ∧ _ ∧ a.storeErr v n y = b.storeErr v n y ∧ Sim (a.store v n y) (b.store v n y)))
    unfold PM.store
    unfold PM.storeErr
    rw [h.made]
    split
    · exact ⟨by simp, .inr ⟨rfl, rfl, rfl, by simpa using h⟩⟩
    · refine ⟨g1, g2.imp id fun q => ⟨rfl, rfl, q.1, ?_⟩⟩
      rw [q.1]
      split
      · refine ⟨h.made, h.globals, h.frames, ?_, h.keep, ?_⟩
        · intro k l hk
          simp only [PM.put] at hk ⊢
          split at hk
          · rename_i hk1
            rw [if_pos hk1]
            cases ha : a.cells k with
            | none => rw [ha] at hk; simp at hk
            | some l0 => rw [ha] at hk; rw [h.cells _ _ ha]; exact hk
          · rename_i hk1; rw [if_neg hk1]; exact h.cells k l hk
        · intro k k1 k2
          simp only [PM.put]
          have := h.all k k1 k2
          split
          · cases hb : b.cells k with
            | none => exact absurd hb this
            | some l => simp
          · exact this
      · exact h
  by_cases h7 : k = 7
  · subst h7
    exact ⟨(by show b.gerr n ≠ 32; unfold PM.gerr; split <;> simp), .inr ⟨rfl, (by show a.global n = b.global n; unfold PM.global; rw [h.globals]), (by show a.gerr n = b.gerr n; unfold PM.gerr; rw [h.globals]), h⟩⟩
  by_cases h8 : k = 8
  · subst h8
    have e1 : a.setGlobalErr n v = b.setGlobalErr n v := by simp [PM.setGlobalErr, PM.gerr, h.globals, h.made]
    refine ⟨(by show b.setGlobalErr n v ≠ 32; unfold PM.setGlobalErr; split <;> simp), .inr ⟨rfl, rfl, e1, ?_⟩⟩
    show Sim (a.setGlobal n v) (b.setGlobal n v)
    unfold PM.setGlobal
    rw [e1]
    split
    · exact ⟨h.made, by simp [h.globals], h.frames, h.cells, h.keep, h.all⟩
    · exact h
  · refine ⟨by simp [PM.oneE, POp.onHeap, h3, h4, h5, h6, h7, h8, h10'], .inr ⟨by simp [PM.oneN, POp.onHeap, h4], by simp [PM.oneV, POp.onHeap, h5, h7], by simp [PM.oneE, POp.onHeap, h3, h4, h5, h6, h7, h8, h10'], ?_⟩⟩
    simpa [PM.oneM, POp.onHeap, h2, h3, h4, h6, h8, h10'] using h

/-- sizes: so many steps, so many frames and cells at most -/
structure Small (i : Nat) (M : PM) : Prop where
  made : M.made ≤ i
  frames : M.frames.length ≤ i + 1
  each : ∀ l ∈ M.frames, l.length ≤ i
theorem Small.mono {i j : Nat} {M : PM} (h : Small i M) (hij : i ≤ j) : Small j M := ⟨Nat.le_trans h.made hij, by have := h.frames; omega, fun l hl => Nat.le_trans (h.each l hl) hij⟩
theorem Small.one {i : Nat} {M : PM} (h : Small i M) (o : POp) : Small (i + 1) (M.oneM o) := by
  have h' := h.mono (Nat.le_succ i)
  unfold PM.oneM
  split
  · refine ⟨h'.made, by have := h.frames; simp [PM.push]; omega, fun l hl => ?_⟩
    simp [PM.push] at hl
    rcases hl with hl | hl
    · exact h'.each l hl
    · subst hl; simp
  split
  · exact ⟨h'.made, by have := h'.frames; simp [PM.pop]; omega, fun l hl => h'.each l (List.dropLast_subset _ (by simpa [PM.pop] using hl))⟩
  split
  · unfold PM.make
    split
    · refine ⟨by have := h.made; simp [PM.mk']; omega, ?_, ?_⟩
      · have := h'.frames
        simp only [PM.mk']
        split <;> simpa using this
      · intro l hl
        simp only [PM.mk'] at hl
        split at hl
        · exact h'.each l hl
        · obtain ⟨j, hj, rfl⟩ := List.getElem_of_mem hl
          rw [List.getElem_modify]
          have hj' : j < M.frames.length := by simpa using hj
          have := h.each M.frames[j] (List.getElem_mem hj')
          split <;> simp <;> omega
    · exact h'
  split
  · unfold PM.store
    split
    · exact ⟨h'.made, h'.frames, h'.each⟩
    · exact h'
  split
  · unfold PM.setGlobal
    split
    · exact ⟨h'.made, h'.frames, h'.each⟩
    · exact h'
  split
  · unfold PM.drop
    split
    · exact ⟨h'.made, h'.frames, h'.each⟩
    · exact h'
  · exact h'
end Go.Proofs.Ytabfmoedbnpihaa
