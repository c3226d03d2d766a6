/- The memory of a run (package cells) as plain data, and what it is in a world. -/
import Derived.Test.YtabfmoedbnpihaaRows
import Derived.Test.YtabfmoedbnpihaaKMap
import Derived.Test.YtabfmoedbnpihaaKUtil
namespace Go.Proofs.Ytabfmoedbnpihaa
open Go.RowKit Go.MapKept

structure PM where
  globals : List (Int × Int)
  cells : Int → Option (List (Int × Int))
  made : Nat
  frames : List (List Int)

def flat : List (Int × Int) → List Value
  | [] => []
  | x :: l => .int .i64 x.1 :: .int .i64 x.2 :: flat l
theorem flat_length (l : List (Int × Int)) : (flat l).length = 2 * l.length := by
  induction l with
  | nil => rfl
  | cons x l ih => simp only [flat, List.length_cons, ih]; omega
theorem flat_get {l : List (Int × Int)} {i : Nat} {x : Int × Int} (h : l[i]? = some x) : (flat l)[2 * i]? = some (.int .i64 x.1) ∧ (flat l)[2 * i + 1]? = some (.int .i64 x.2) := by
  induction l generalizing i with
  | nil => simp at h
  | cons y l ih =>
    cases i with
    | zero => simp at h; subst h; exact ⟨rfl, rfl⟩
    | succ i =>
      have := ih (i := i) (by simpa using h)
      exact this
theorem flat_set {l : List (Int × Int)} {i : Nat} (x : Int × Int) (h : i < l.length) : ((flat l).set (2 * i) (.int .i64 x.1)).set (2 * i + 1) (.int .i64 x.2) = flat (l.set i x) := by
  induction l generalizing i with
  | nil => simp at h
  | cons y l ih =>
    cases i with
    | zero => rfl
    | succ i =>
      have := ih (i := i) (by simpa using h)
      have e1 : 2 * (i + 1) = 2 * i + 1 + 1 := by omega
      rw [e1]
      simp only [flat, List.set_cons_succ, this]
theorem flat_replicate (n : Nat) : flat (List.replicate n (0, 0)) = List.replicate (2 * n) (.int .i64 0) := by
  induction n with
  | zero => rfl
  | succ n ih =>
    have e1 : 2 * (n + 1) = 2 * n + 1 + 1 := by omega
    rw [e1]
    simp only [List.replicate_succ, flat, ih]

/-- what block is whose: 0 the memory itself, 1 its map, 2 its globals, 3 its frames, (4, i) frame i, (5, k) cell k -/
abbrev Lab := Nat → Option (Nat × Int)

def CellIs (w : World) (lab : Lab) (k : Int) : Option Value → Option (List (Int × Int)) → Prop
  | none, none => True
  | some v, some l => ∃ cb, v = .agg #[.slice (some ⟨cb, 0, none⟩) l.length l.length] ∧ w.heap[cb]? = some (.cells (flat l).toArray 32 (0, 0)) ∧ lab cb = some (5, k) ∧ l.length ≤ 8
  | _, _ => False

structure MemIs (w : World) (p : Nat) (lab : Lab) (M : PM) (gb bm : Nat) (fv : Value) (vs : List Value) (f : Int → Option Value) : Prop where
  self : w.heap[p]? = some (.cells #[.slice (some ⟨gb, 0, none⟩) M.globals.length M.globals.length, .map (some bm), .int .i64 M.made, fv] 66 (0, 0))
  lself : lab p = some (0, 0)
  glob : w.heap[gb]? = some (.cells (flat M.globals).toArray 32 (0, 0))
  lglob : lab gb = some (2, 0)
  map : IMap w bm f
  lmap : lab bm = some (1, 0)
  cells : ∀ k, CellIs w lab k (f k) (M.cells k)
  outer : w.ownsRow 0 39 1 fv vs.length vs
  louter : ∀ g, fv.ownBlock = some g → lab g = some (3, 0)
  len : vs.length = M.frames.length
  inner : ∀ (i : Nat) (l : List Int), M.frames[i]? = some l → ∃ v, vs[i]? = some v ∧ w.ownsRow 0 3 1 v l.length (l.map (Value.int .i64)) ∧ ∀ g, v.ownBlock = some g → lab g = some (4, (i : Int))
  old : ∀ b, lab b ≠ none → b < w.heap.size

def MemAt (w : World) (p : Nat) (lab : Lab) (M : PM) : Prop := ∃ gb bm fv vs f, MemIs w p lab M gb bm fv vs f

/-- a call that works on the blocks of lab alone; they are those of lab' then -/
structure Ext (w w' : World) (lab lab' : Lab) : Prop where
  only : Only w w' fun b => lab b ≠ none
  keep : ∀ b, lab b ≠ none → lab' b = lab b
  new : ∀ b, lab' b ≠ none → lab b ≠ none ∨ w.heap.size ≤ b
theorem Ext.refl (w : World) (lab : Lab) : Ext w w lab lab := ⟨Only.refl _ _, fun _ _ => rfl, fun _ h => .inl h⟩
theorem Ext.same {w w' : World} {lab : Lab} (h : Only w w' fun b => lab b ≠ none) : Ext w w' lab lab := ⟨h, fun _ _ => rfl, fun _ h => .inl h⟩
theorem Ext.trans {w w1 w2 : World} {l l1 l2 : Lab} (h : Ext w w1 l l1) (k : Ext w1 w2 l1 l2) : Ext w w2 l l2 :=
  ⟨h.only.trans k.only fun b q => (h.new b q), fun b q => by rw [k.keep b (by rw [h.keep b q]; exact q), h.keep b q], fun b q => by
    rcases k.new b q with q | q
    · exact h.new b q
    · exact .inr (Nat.le_trans h.only.size q)⟩

section
variable {w w' : World} {p : Nat} {lab : Lab} {M : PM} {gb bm : Nat} {fv : Value} {vs : List Value} {f : Int → Option Value}
theorem CellIs.only {k : Int} {a : Option Value} {b : Option (List (Int × Int))} {S : Nat → Prop} (h : CellIs w lab k a b) (ho : Only w w' S) (hs : ∀ c, lab c = some (5, k) → ¬ S c) : CellIs w' lab k a b := by
  unfold CellIs at h ⊢
  split at h
  · trivial
  · obtain ⟨cb, h1, h2, h3, h4⟩ := h
    exact ⟨cb, h1, ho.blk h2 (hs cb h3), h3, h4⟩
  · exact h
theorem CellIs.relab {k : Int} {a : Option Value} {b : Option (List (Int × Int))} {lab' : Lab} (h : CellIs w lab k a b) (hl : ∀ c, lab c ≠ none → lab' c = lab c) : CellIs w lab' k a b := by
  unfold CellIs at h ⊢
  split at h
  · trivial
  · obtain ⟨cb, h1, h2, h3, h4⟩ := h
    exact ⟨cb, h1, h2, by rw [hl cb (by simp [h3])]; exact h3, h4⟩
  · exact h
/-- a memory is what it is while others are worked on -/
theorem MemIs.only {S : Nat → Prop} (h : MemIs w p lab M gb bm fv vs f) (ho : Only w w' S) (hs : ∀ b, lab b ≠ none → ¬ S b) : MemIs w' p lab M gb bm fv vs f where
  self := ho.blk h.self (hs p (by simp [h.lself]))
  lself := h.lself
  glob := ho.blk h.glob (hs gb (by simp [h.lglob]))
  lglob := h.lglob
  map := h.map.only ho (hs bm (by simp [h.lmap]))
  lmap := h.lmap
  cells := fun k => (h.cells k).only ho fun c hc => hs c (by simp [hc])
  outer := ho.row h.outer fun g hg => hs g (by simp [h.louter g hg])
  louter := h.louter
  len := h.len
  inner := fun i l hi => by
    obtain ⟨v, h1, h2, h3⟩ := h.inner i l hi
    exact ⟨v, h1, ho.row h2 fun g hg => hs g (by simp [h3 g hg]), h3⟩
  old := fun b hb => Nat.lt_of_lt_of_le (h.old b hb) ho.size
theorem MemAt.only {S : Nat → Prop} (h : MemAt w p lab M) (ho : Only w w' S) (hs : ∀ b, lab b ≠ none → ¬ S b) : MemAt w' p lab M := by
  obtain ⟨gb, bm, fv, vs, f, h⟩ := h
  exact ⟨gb, bm, fv, vs, f, h.only ho hs⟩
end
end Go.Proofs.Ytabfmoedbnpihaa
