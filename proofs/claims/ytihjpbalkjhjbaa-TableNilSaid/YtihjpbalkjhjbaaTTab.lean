/- A step towards the laws on the table: the table as it lies in memory. No conditions of its own beyond those that its theorems name. -/
import Derived.Test.YtihjpbalkjhjbaaRows
import Derived.Test.YtihjpbalkjhjbaaKMap
import Derived.Test.YtihjpbalkjhjbaaKUtil
import Derived.Lib.Hide
namespace Go.Proofs.Ytihjpbalkjhjbaa
open Go.RowKit Go.MapKept

/-- what block is whose: (0, 0) the table itself, (1, i) the map of stripe i, (2, k) the entry of key k -/
abbrev TLab := Nat → Option (Nat × Int)
abbrev Fresh (w w' : World) : Prop := Only w w' fun _ => False

def EntIs (w : World) (lab : TLab) (k : Int) : Option Value → Option ByteArray → Prop
  | none, none => True
  | some v, some s => ∃ eb, v = .pointer (some ⟨eb, 0, none⟩) ∧ w.heap[eb]? = some (.cells #[.int .u32 1, .string s] 127 (0, 0)) ∧ lab eb = some (2, k)
  | _, _ => False
structure TabIs (lk : Nat → Int) (w : World) (tb : Nat) (lab : TLab) (T : Int → Option ByteArray) (bm : Nat → Nat) (f : Nat → Int → Option Value) (cs : Array Value) : Prop where
  self : w.heap[tb]? = some (.cells cs 89 (0, 0))
  lock : ∀ i, i < 8 → cs[i * 3]? = some (.int .i32 (lk i))
  mapc : ∀ i, i < 8 → cs[i * 3 + 2]? = some (.map (some (bm i)))
  lself : lab tb = some (0, 0)
  maps : ∀ i, i < 8 → IMap w (bm i) (f i)
  lmap : ∀ i, i < 8 → lab (bm i) = some (1, (i : Int))
  ents : ∀ i, i < 8 → ∀ k : Int, EntIs w lab k (f i k) (if k % 8 = (i : Int) then T k else none)
  old : ∀ b, lab b ≠ none → b < w.heap.size
def TabAt (w : World) (tb : Nat) (lab : TLab) (T : Int → Option ByteArray) : Prop := ∃ bm f cs, TabIs (fun _ => 0) w tb lab T bm f cs

/-- a call that works on the blocks of lab alone; they are those of lab' then -/
structure TExt (w w' : World) (lab lab' : TLab) : Prop where
  only : Only w w' fun b => lab b ≠ none
  keep : ∀ b, lab b ≠ none → lab' b = lab b
  new : ∀ b, lab' b ≠ none → lab b ≠ none ∨ w.heap.size ≤ b
theorem TExt.same {w w' : World} {lab : TLab} (h : Only w w' fun b => lab b ≠ none) : TExt w w' lab lab := ⟨h, fun _ _ => rfl, fun _ h => .inl h⟩

section
variable {lk : Nat → Int} {w w2 : World} {tb : Nat} {lab : TLab} {T : Int → Option ByteArray} {bm : Nat → Nat} {f : Nat → Int → Option Value} {cs : Array Value}
theorem EntIs.only {S : Nat → Prop} {k : Int} {a : Option Value} {b : Option ByteArray} (h : EntIs w lab k a b) (ho : Only w w2 S) (hs : ∀ c, lab c = some (2, k) → ¬ S c) : EntIs w2 lab k a b := by
  unfold EntIs at h ⊢
  split at h
  · trivial
  · obtain ⟨eb, h1, h2, h3⟩ := h
    exact ⟨eb, h1, ho.blk h2 (hs eb h3), h3⟩
  · exact h
theorem EntIs.relab {k : Int} {a : Option Value} {b : Option ByteArray} {lab' : TLab} (h : EntIs w lab k a b) (hl : ∀ c, lab c ≠ none → lab' c = lab c) : EntIs w lab' k a b := by
  unfold EntIs at h ⊢
  split at h
  · trivial
  · obtain ⟨eb, h1, h2, h3⟩ := h
    exact ⟨eb, h1, h2, by rw [hl eb (by simp [h3])]; exact h3⟩
  · exact h
theorem TabIs.only {S : Nat → Prop} (h : TabIs lk w tb lab T bm f cs) (ho : Only w w2 S) (hs : ∀ b, lab b ≠ none → ¬ S b) : TabIs lk w2 tb lab T bm f cs where
  self := ho.blk h.self (hs tb (by simp [h.lself]))
  lock := h.lock
  mapc := h.mapc
  lself := h.lself
  maps := fun i hi => (h.maps i hi).only ho (hs _ (by simp [h.lmap i hi]))
  lmap := h.lmap
  ents := fun i hi k => (h.ents i hi k).only ho fun c hc => hs c (by simp [hc])
  old := fun b hb => Nat.lt_of_lt_of_le (h.old b hb) ho.size
theorem TabAt.only {S : Nat → Prop} (h : TabAt w tb lab T) (ho : Only w w2 S) (hs : ∀ b, lab b ≠ none → ¬ S b) : TabAt w2 tb lab T := by
  obtain ⟨bm, f, cs, h⟩ := h
  exact ⟨bm, f, cs, h.only ho hs⟩
theorem tlab_ne {x y : Nat} {r s : Nat × Int} (hx : lab x = some r) (hy : lab y = some s) (hrs : r ≠ s) : x ≠ y := fun e => by
  rw [e, hy] at hx
  injection hx with hx
  exact hrs hx.symm
/-- the lock of a stripe turns -/
theorem TabIs.locked (h : TabIs lk w tb lab T bm f cs) {i : Nat} (hi : i < 8) (x : Int) : TabIs (fun j => if j = i then x else lk j) (w.setCell ⟨tb, i * 3, none⟩ (.int .i32 x)) tb lab T bm f (cs.setIfInBounds (i * 3) (.int .i32 x)) := by
  have ho : Only w (w.setCell ⟨tb, i * 3, none⟩ (.int .i32 x)) fun b => b = tb := (Only.refl w (fun b => b = tb)).setCell (p := ⟨tb, i * 3, none⟩) (.inl rfl) _
  have hsz : i * 3 < cs.size := (Array.getElem?_eq_some_iff.1 (h.lock i hi)).1
  refine ⟨blk_set h.self _ _, fun j hj => ?_, fun j hj => ?_, h.lself, fun j hj => (h.maps j hj).only ho (tlab_ne (h.lmap j hj) h.lself (by simp)), h.lmap, fun j hj k => (h.ents j hj k).only ho fun c hc => tlab_ne hc h.lself (by simp), fun b hb => by simpa using h.old b hb⟩
  · by_cases e : j = i
    · subst e
      simp [hsz]
    · rw [Array.getElem?_setIfInBounds_ne (by omega), if_neg e]
      exact h.lock j hj
  · rw [Array.getElem?_setIfInBounds_ne (by omega)]
    exact h.mapc j hj
/-- a key more: its entry is block eb, which is new -/
theorem TabIs.put (h : TabIs lk w tb lab T bm f cs) {i : Nat} (hi : i < 8) {k : Int} (hk : k % 8 = (i : Int)) {eb : Nat} {s : ByteArray} (heb : w.heap.size ≤ eb) (hm : IMap w2 (bm i) (fun j => if j = k then some (.pointer (some ⟨eb, 0, none⟩)) else f i j))
    (ho : Only w w2 fun b => b = bm i) (hb : w2.heap[eb]? = some (.cells #[.int .u32 1, .string s] 127 (0, 0))) :
    TabIs lk w2 tb (fun b => if b = eb then some (2, k) else lab b) (fun j => if j = k then some s else T j) bm (fun j => if j = i then (fun l => if l = k then some (.pointer (some ⟨eb, 0, none⟩)) else f i l) else f j) cs := by
  have hkeep : ∀ {c r}, lab c = some r → (fun b => if b = eb then some (2, k) else lab b) c = some r := fun {c r} hc => by
    have := h.old c (by simp [hc])
    show (if c = eb then some (2, k) else lab c) = _
    rw [if_neg (by omega)]
    exact hc
  have hkeep2 : ∀ c, lab c ≠ none → (fun b => if b = eb then some (2, k) else lab b) c = lab c := fun c hc => by
    have := h.old c hc
    show (if c = eb then some (2, k) else lab c) = _
    rw [if_neg (by omega)]
  refine ⟨ho.blk h.self (tlab_ne h.lself (h.lmap i hi) (by simp)), h.lock, h.mapc, hkeep h.lself, fun j hj => ?_, fun j hj => hkeep (h.lmap j hj), fun j hj l => ?_, fun b hb' => ?_⟩
  · skip
    by_cases e : j = i
    · subst e
      rw [if_pos rfl]
      exact hm
    · rw [if_neg e]
      exact (h.maps j hj).only ho (tlab_ne (h.lmap j hj) (h.lmap i hi) (by simp; omega))
  · skip
    by_cases el : l = k
    · subst el
      by_cases e : j = i
      · subst e
        rw [if_pos rfl, if_pos rfl, if_pos hk, if_pos rfl]
        exact ⟨eb, rfl, hb, if_pos rfl⟩
      · rw [if_neg e, if_neg (by omega)]
        have := h.ents j hj l
        rw [if_neg (by omega)] at this
        exact (this.only ho fun c hc => tlab_ne hc (h.lmap i hi) (by simp)).relab hkeep2
    · rw [if_neg el]
      have := ((h.ents j hj l).only ho fun c hc => tlab_ne hc (h.lmap i hi) (by simp)).relab hkeep2
      by_cases e : j = i
      · subst e
        rw [if_pos rfl, if_neg el]
        exact this
      · rw [if_neg e]
        exact this
  · by_cases e : b = eb
    · subst e
      exact blk_lt hb
    · have hb2 : lab b ≠ none := by
        have h3 : (if b = eb then some (2, k) else lab b) ≠ none := hb'
        rwa [if_neg e] at h3
      exact Nat.lt_of_lt_of_le (h.old b hb2) ho.size
end
end Go.Proofs.Ytihjpbalkjhjbaa
