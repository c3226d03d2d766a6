/- A step towards the laws on the cells of a run: the plain law of CellsFrames. No conditions of its own beyond those that its theorems name. -/
import Derived.Test.YtabfmoedbnpihaaKLive
namespace Go.Proofs.Ytabfmoedbnpihaa
open Go.RowKit Go.MapKept

def sumTo (g : Nat → Nat) : Nat → Nat
  | 0 => 0
  | i + 1 => sumTo g i + g i
theorem sumTo_le {g : Nat → Nat} {b : Nat} (h : ∀ i, g i ≤ b) : ∀ i, sumTo g i ≤ i * b
  | 0 => by simp [sumTo]
  | i + 1 => by
    have h1 := sumTo_le h i
    have h2 := h i
    rw [sumTo, Nat.succ_mul]
    omega

/-- the memory of CellsFrames: fl: how many cells each frame's end takes; c: how many cells are there; m: how many were made -/
structure FInv (M : PM) (fl : List Nat) (c m : Nat) : Prop where
  made : M.made = m
  lens : M.frames.map List.length = fl
  nodup : M.frames.flatten.Nodup
  live : ∀ x ∈ M.frames.flatten, M.cells x ≠ none
  dom : M.Dom
  count : ∃ L : List Int, L.Nodup ∧ (∀ k, k ∈ L ↔ M.cells k ≠ none) ∧ L.length = c

theorem modify_last (fs : List (List Int)) (l : List Int) (g : List Int → List Int) : (fs ++ [l]).modify fs.length g = fs ++ [g l] := by
  induction fs with
  | nil => rfl
  | cons x fs ih => simp only [List.cons_append, List.length_cons, List.modify_succ_cons, ih]
theorem filter_both (q : Int → Bool) (L : List Int) : (L.filter q).length + (L.filter fun x => !q x).length = L.length := by
  induction L with
  | nil => rfl
  | cons x L ih =>
    simp only [List.filter_cons, List.length_cons]
    cases q x <;> simp <;> omega
theorem FInv.start (n : Int) : FInv (PM.new n) [] 0 0 := ⟨rfl, rfl, List.nodup_nil, fun x hx => by simp [PM.new] at hx, fun k hk => absurd rfl hk, [], List.nodup_nil, fun k => by simp [PM.new], rfl⟩
theorem FInv.push {M : PM} {fl : List Nat} {c m : Nat} (h : FInv M fl c m) : FInv M.push (fl ++ [0]) c m :=
  ⟨h.made, by simp [PM.push, h.lens], by simpa [PM.push] using h.nodup, fun x hx => h.live x (by simpa [PM.push] using hx), h.dom, h.count⟩
theorem frames_last {L : List (List Int)} {fl : List Nat} {a : Nat} (h : L.map List.length = fl ++ [a]) : ∃ fs l, L = fs ++ [l] ∧ fs.map List.length = fl ∧ l.length = a := by
  rcases List.eq_nil_or_concat L with rfl | ⟨fs, l, rfl⟩
  · simp at h
  · simp only [List.concat_eq_append, List.map_append, List.map_cons, List.map_nil] at h
    obtain ⟨h1, h2⟩ := List.append_inj' h rfl
    exact ⟨fs, l, by simp, h1, by simpa using h2⟩
theorem FInv.make {M : PM} {fl : List Nat} {a c m : Nat} (h : FInv M (fl ++ [a]) c m) (n : Int) (heap : Bool) (hn1 : 1 ≤ n) (hn8 : n ≤ 8) :
    M.mkErr n = 0 ∧ M.mkN n = m + 1 ∧ FInv (M.make n heap) (fl ++ [a + if heap = true then 0 else 1]) (c + 1) (m + 1) := by
  obtain ⟨fs, l, hf, hfs, hla⟩ := frames_last h.lens
  have he : M.mkErr n = 0 := by
    unfold PM.mkErr
    rw [if_neg (by omega), if_neg (by simp [hf])]
  have hnew : M.cells ((M.made : Int) + 1) = none := Decidable.byContradiction fun q => by
    have := (h.dom _ q).2
    omega
  refine ⟨he, by unfold PM.mkN; rw [if_pos he, h.made], ?_⟩
  unfold PM.make
  rw [if_pos he]
  have hfl : (M.mk' n.toNat heap).frames = fs ++ [if heap = true then l else l ++ [(M.made : Int) + 1]] := by
    simp only [PM.mk']
    cases heap
    · simp only [Bool.false_eq_true, if_false, hf]
      simp only [List.length_append, List.length_cons, List.length_nil, Nat.zero_add, Nat.add_sub_cancel]
      exact modify_last _ _ _
    · simp [hf]
  have hlive : ∀ x, M.cells x ≠ none → (M.mk' n.toNat heap).cells x ≠ none := fun x hx => by
    simp only [PM.mk']
    split
    · simp
    · exact hx
  have hfl0 : M.frames.flatten = fs.flatten ++ l := by simp [hf]
  refine ⟨by simp [PM.mk', h.made], ?_, ?_, ?_, ?_, ?_⟩
  · rw [hfl]
    cases heap <;> simp [hfs, hla]
  · rw [hfl]
    have hnd := h.nodup
    rw [hfl0] at hnd
    cases heap
    · simp only [Bool.false_eq_true, if_false, List.flatten_append, List.flatten_cons, List.flatten_nil, List.append_nil]
      rw [← List.append_assoc, List.nodup_append]
      refine ⟨hnd, by simp, fun x hx y hy => ?_⟩
      simp at hy
      subst hy
      intro e
      exact h.live x (by rw [hfl0]; exact hx) (e ▸ hnew)
    · simpa using hnd
  · intro x hx
    rw [hfl] at hx
    by_cases hx1 : x = (M.made : Int) + 1
    · simp [PM.mk', hx1]
    · refine hlive x (h.live x ?_)
      rw [hfl0]
      cases heap
      · simp [hx1] at hx
        simpa using hx
      · simpa using hx
  · intro k hk
    simp only [PM.mk'] at hk ⊢
    split at hk
    · rename_i e
      push_cast
      omega
    · have := h.dom k hk
      push_cast
      omega
  · obtain ⟨L, h1, h2, h3⟩ := h.count
    refine ⟨((M.made : Int) + 1) :: L, ?_, ?_, by simp [h3]⟩
    · rw [List.nodup_cons]
      exact ⟨fun q => (h2 _).1 q hnew, h1⟩
    · intro k
      simp only [PM.mk', List.mem_cons]
      split
      · rename_i e
        simp [e]
      · rename_i e
        simp [e, h2]
theorem filter_out {l : List Int} (hl : l.Nodup) : ∀ {L : List Int}, L.Nodup → (∀ x ∈ l, x ∈ L) → (L.filter fun x => decide (x ∉ l)).length + l.length = L.length := by
  intro L hL hs
  have h1 : (L.filter fun x => decide (x ∈ l)).Perm l := by
    refine (List.perm_ext_iff_of_nodup (hL.filter _) hl).2 fun x => ?_
    simp only [List.mem_filter, decide_eq_true_eq]
    exact ⟨fun q => q.2, fun q => ⟨hs x q, q⟩⟩
  have h2 := filter_both (fun x => decide (x ∈ l)) L
  have h3 : (L.filter fun x => decide (x ∉ l)) = L.filter fun x => !decide (x ∈ l) := by
    congr 1
    funext x
    simp
  rw [h3, ← h1.length_eq]
  omega
theorem FInv.pop {M : PM} {fl : List Nat} {a c m : Nat} (h : FInv M (fl ++ [a]) c m) : M.popErr = 0 ∧ a ≤ c ∧ FInv M.pop fl (c - a) m := by
  obtain ⟨fs, l, hf, hfs, hla⟩ := frames_last h.lens
  have hfl0 : M.frames.flatten = fs.flatten ++ l := by simp [hf]
  have hnd := h.nodup
  rw [hfl0, List.nodup_append] at hnd
  obtain ⟨n1, n2, n3⟩ := hnd
  obtain ⟨L, h1, h2, h3⟩ := h.count
  have hsub : ∀ x ∈ l, x ∈ L := fun x hx => (h2 x).2 (h.live x (by rw [hfl0]; simp [hx]))
  have hlen := filter_out n2 h1 hsub
  have hlast : M.frames.getLast?.getD [] = l := by simp [hf]
  refine ⟨by simp [PM.popErr, hf], by omega, ?_⟩
  refine ⟨h.made, by simp [PM.pop, hf, hfs], by simpa [PM.pop, hf] using n1, ?_, ?_, ⟨_, h1.filter fun x => decide (x ∉ l), ?_, by omega⟩⟩
  · intro x hx
    have hx' : x ∈ fs.flatten := by simpa [PM.pop, hf] using hx
    simp only [PM.pop, hlast]
    rw [if_neg (fun q => n3 x hx' x q rfl)]
    exact h.live x (by rw [hfl0]; simp [hx'])
  · intro k hk
    simp only [PM.pop, hlast] at hk ⊢
    split at hk
    · exact absurd rfl hk
    · exact h.dom k hk
  · intro k
    simp only [PM.pop, hlast, List.mem_filter, decide_eq_true_eq]
    split
    · rename_i e; simp [e]
    · rename_i e; simp [e, h2]
theorem FInv.none {M : PM} {c m : Nat} (h : FInv M [] c m) : M.popErr = 30 := by
  have := h.lens
  simp at this
  simp [PM.popErr, this]
theorem FInv.live_len {M : PM} {fl : List Nat} {c m : Nat} (h : FInv M fl c m) {ss : List Int} (hs : LiveIs M ss) : ss.length = c := by
  obtain ⟨L, h1, h2, h3⟩ := h.count
  have hp : ss.Perm L := (List.perm_ext_iff_of_nodup (hs.rising.imp fun q => Int.ne_of_lt q) h1).2 fun k => (hs.mem k).trans (h2 k).symm
  rw [hp.length_eq, h3]
theorem FInv.frames {M : PM} {fl : List Nat} {c m : Nat} (h : FInv M fl c m) : M.frames.length = fl.length := by rw [← h.lens]; simp
theorem FInv.each {M : PM} {fl : List Nat} {c m b : Nat} (h : FInv M fl c m) (hb : ∀ a ∈ fl, a < b) : ∀ l ∈ M.frames, l.length < b := fun l hl => hb _ (by rw [← h.lens]; exact List.mem_map.2 ⟨l, hl, rfl⟩)
end Go.Proofs.Ytabfmoedbnpihaa
