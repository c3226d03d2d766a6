/- Steps towards the law (texts of this seat, put into one). No conditions of its own beyond those that its theorems name. -/
import Derived.Maps.Keyed
import Derived.Below
import Derived.OwnWalk
import Derived.Deep.Draws
import Derived.Laws.AppendOwn
import Derived.MapKept
import Derived.Maps.AppendAt
import Derived.Deep.AppendLies
import Derived.RegionTactic
import Derived.RowKit2
import Derived.WalkKit
import Derived.WalkSpells
import Derived.WalkSmall
import Derived.Test.YtihjpbalkjhjbaaRows
import Derived.Lib.Hide
import Derived.Conc.MuLib
import Derived.KernelRfl
import Derived.Laws.LoneSync
import Derived.Conc.MuLone
import Derived.StillTailTactics
import Derived.BigQuiet
import Derived.Maps.RangeRun
import Derived.Test.YtihjpbalkjhjbaaProg
import Derived.Deep.RegionLaw
import Derived.Lib.SlicesS
import Derived.LoopTactic
import Derived.Deep.DeepCutAuto
import Derived.Deep.DeepFit
import Derived.IntWalk
import Derived.Shelf.SortM.Plain
import Derived.Shelf.SortM.SortNone
import Derived.Ground.SlgmProg
import Derived.Laws.MakeOwn
import Derived.Sort.OwnSortedInts
import Derived.Deep.RegionWith
import Derived.Test.YtihjpbalkjhjbaaPTableEndsx0
import Derived.OrdersHeld
import Derived.Test.YtihjpbalkjhjbaaGX
import Derived.Test.YtihjpbalkjhjbaaWWords
import Derived.Deep.QuietTactic
import Derived.Laws.CopyRow
namespace Go.Proofs.Ytihjpbalkjhjbaa
open Go.RowKit Go.MapKept
/-! ### 1. the frame: what lies outside S is as it was -/
structure Only (w w' : World) (S : Nat → Prop) : Prop where
  os : w'.os = w.os
  tape : w'.tape = w.tape
  output : w'.output = w.output
  size : w.heap.size ≤ w'.heap.size
  block : ∀ k, k < w.heap.size → ¬ S k → w'.heap[k]? = w.heap[k]?
section
variable {w w1 w2 : World} {S S' : Nat → Prop}
theorem Only.refl (w : World) (S : Nat → Prop) : Only w w S := ⟨rfl, rfl, rfl, Nat.le_refl _, fun _ _ _ => rfl⟩
theorem Only.trans (h : Only w w1 S) (k : Only w1 w2 S') (hs : ∀ b, S' b → S b ∨ w.heap.size ≤ b) : Only w w2 S :=
  ⟨k.os.trans h.os, k.tape.trans h.tape, k.output.trans h.output, Nat.le_trans h.size k.size, fun b hb hn =>
    (k.block b (Nat.lt_of_lt_of_le hb h.size) (fun q => by rcases hs b q with q | q; exact hn q; omega)).trans (h.block b hb hn)⟩
theorem Only.mono (h : Only w w1 S) (hs : ∀ b, b < w.heap.size → S b → S' b) : Only w w1 S' :=
  ⟨h.os, h.tape, h.output, h.size, fun b hb hn => h.block b hb (fun q => hn (hs b hb q))⟩
theorem Only.trans' (h : Only w w1 S) (k : Only w1 w2 S) : Only w w2 S := h.trans k fun _ q => .inl q
theorem Only.drew (h : Only w w1 S) : Only w w1.drew S := ⟨h.os, h.tape, h.output, h.size, h.block⟩
theorem Only.drewN (h : Only w w1 S) (n : Nat) : Only w (w1.drewN n) S := ⟨h.os, h.tape, h.output, h.size, h.block⟩
theorem Only.alloc (h : Only w w1 S) (o : Obj) : Only w (w1.alloc o) S :=
  ⟨h.os, h.tape, h.output, Nat.le_trans h.size (by simp), fun b hb hn => (Below.heap_alloc w1 o b (Nat.lt_of_lt_of_le hb h.size)).trans (h.block b hb hn)⟩
theorem Only.setCell (h : Only w w1 S) {p : Addr} (hp : S p.block ∨ w.heap.size ≤ p.block) (u : Value) : Only w (w1.setCell p u) S :=
  ⟨h.os, h.tape, h.output, by simpa [World.setCell] using h.size, fun b hb hn => (Below.heap_setCell w1 p u b (by
    rintro rfl
    rcases hp with hp | hp
    · exact hn hp
    · omega)).trans (h.block b hb hn)⟩
theorem Only.grown {row : Option Nat} (h : Only w w1 S) (hg : w1.grownBy w2 row) (hr : ∀ g, row = some g → S g ∨ w.heap.size ≤ g) : Only w w2 S :=
  ⟨hg.os.trans h.os, hg.tape.trans h.tape, hg.output.trans h.output, Nat.le_trans h.size hg.size, fun b hb hn =>
    (hg.block b (Nat.lt_of_lt_of_le hb h.size) (fun e => by
      rcases hr b e.symm with q | q
      · exact hn q
      · omega)).trans (h.block b hb hn)⟩
theorem Only.below (h : Only w w1 S) {B : Nat} (hB : B ≤ w.heap.size) (hs : ∀ b, S b → B ≤ b) : Below B w w1 :=
  ⟨h.os, h.tape, h.output, h.size, fun b hb => h.block b (by omega) (fun q => by have := hs b q; omega)⟩
theorem Only.of_below {B : Nat} (h : Below B w w1) (hs : ∀ b, B ≤ b → b < w.heap.size → S b) : Only w w1 S :=
  ⟨h.os, h.tape, h.output, h.size, fun b hb hn => h.block b (by
    rcases Nat.lt_or_ge b B with q | q
    · exact q
    · exact absurd (hs b q hb) hn)⟩
theorem Only.of_grown {row : Option Nat} (hg : w.grownBy w1 row) (hr : ∀ g, row = some g → S g) : Only w w1 S := (Only.refl w S).grown hg fun g e => .inl (hr g e)
theorem Only.cell (h : Only w w1 S) {p : Addr} (hp : p.block < w.heap.size) (hn : ¬ S p.block) : w1.cell? p = w.cell? p := World.cell?_of_block (w := w) (h.block p.block hp hn)
theorem Only.row {base : Nat} {e : TypeId} {size n : Nat} {v : Value} {xs : List Value} (h : Only w w1 S) (hr : w.ownsRow base e size v n xs) (hn : ∀ g, v.ownBlock = some g → ¬ S g) : w1.ownsRow base e size v n xs := by
  refine ⟨hr.1, ?_⟩
  rcases hr.2 with hh | ⟨g, cap, cur, rfl, hb, hgg, rest⟩
  · exact .inl hh
  · refine .inr ⟨g, cap, cur, rfl, hb, ?_, rest⟩
    rw [h.block g (Array.getElem?_eq_some_iff.1 hgg).1 (hn g rfl)]
    exact hgg
theorem Only.blk (h : Only w w1 S) {g : Nat} {o : Obj} (hg : w.heap[g]? = some o) (hn : ¬ S g) : w1.heap[g]? = some o :=
  (h.block g (Array.getElem?_eq_some_iff.1 hg).1 hn).trans hg
end
/-! ### 2. a map keyed by ints -/
/-- the entries, as a function -/
def isAt (k : Int) : Value → Bool
  | .int .i64 n => decide (n = k)
  | _ => false
theorem isAt_iff {k : Int} {v : Value} : isAt k v = true ↔ v = .int .i64 k := by
  unfold isAt
  split
  · simp
  · rename_i h
    constructor
    · intro q; cases q
    · intro q; exact absurd q (h k)
def look : List MapEntry → Int → Option Value
  | [], _ => none
  | e :: es, k => if isAt k e.key = true then some e.val else look es k
theorem look_none {l : List MapEntry} {k : Int} (h : ∀ x ∈ l, x.key ≠ .int .i64 k) : look l k = none := by
  induction l with
  | nil => rfl
  | cons e l ih => rw [look, if_neg (fun q => h e (by simp) (isAt_iff.1 q))]; exact ih fun x hx => h x (by simp [hx])
theorem look_some {l : List MapEntry} {k : Int} (hd : (l.map (·.key)).Nodup) : ∀ {e : MapEntry}, e ∈ l → e.key = .int .i64 k → look l k = some e.val := by
  induction l with
  | nil => intro e h; cases h
  | cons a l ih =>
    intro e he hk
    simp only [List.map_cons, List.nodup_cons] at hd
    rw [look]
    rcases List.mem_cons.1 he with rfl | he
    · rw [if_pos (isAt_iff.2 hk)]
    · rw [if_neg (fun q => hd.1 (by rw [isAt_iff.1 q, ← hk]; exact List.mem_map.2 ⟨e, he, rfl⟩))]
      exact ih hd.2 he hk
theorem look_mem {l : List MapEntry} {k : Int} {v : Value} (h : look l k = some v) : ∃ e ∈ l, e.key = .int .i64 k ∧ e.val = v := by
  induction l with
  | nil => cases h
  | cons a l ih =>
    rw [look] at h
    split at h
    · rename_i hk
      exact ⟨a, by simp, isAt_iff.1 hk, by simpa using h⟩
    · obtain ⟨e, he, h1, h2⟩ := ih h
      exact ⟨e, by simp [he], h1, h2⟩
/-- block b of w is a map keyed by ints that answers f -/
def IMap (w : World) (b : Nat) (f : Int → Option Value) : Prop :=
  ∃ es clock, w.heap[b]? = some (.map es clock) ∧ Stamped es clock ∧ (∀ x ∈ es.toList, IsKey (.int .i64) x.key) ∧ ∀ k, look es.toList k = f k
theorem isKey_form {v : Value} (h : IsKey (.int .i64) v) : ∃ k, v = .int .i64 k := by
  cases v <;> simp_all [IsKey]
theorem IMap.lt {w : World} {b : Nat} {f : Int → Option Value} (h : IMap w b f) : b < w.heap.size := by
  obtain ⟨es, clock, hb, _⟩ := h
  exact (Array.getElem?_eq_some_iff.1 hb).1
theorem IMap.of_block {w w1 : World} {b : Nat} {f : Int → Option Value} (h : IMap w b f) (hb : w1.heap[b]? = w.heap[b]?) : IMap w1 b f := by
  obtain ⟨es, clock, h1, h2⟩ := h
  exact ⟨es, clock, hb.trans h1, h2⟩
theorem IMap.made (w : World) : IMap (w.alloc (.map #[] 0)) w.heap.size fun _ => none :=
  ⟨#[], 0, heap_alloc_new w _, stamped_empty 0, by simp, fun _ => rfl⟩
theorem IMap.only {w w1 : World} {S : Nat → Prop} {b : Nat} {f : Int → Option Value} (h : IMap w b f) (ho : Only w w1 S) (hn : ¬ S b) : IMap w1 b f := h.of_block (ho.block b h.lt hn)
/-- block b holds another object; all else is as it was -/
def Turned (w w1 : World) (b : Nat) : Prop := w1.os = w.os ∧ w1.tape = w.tape ∧ w1.output = w.output ∧ w1.heap.size = w.heap.size ∧ ∀ k, k ≠ b → w1.heap[k]? = w.heap[k]?
theorem Turned.only {w w1 : World} {b : Nat} {S : Nat → Prop} (h : Turned w w1 b) (hs : S b) : Only w w1 S :=
  ⟨h.1, h.2.1, h.2.2.1, by rw [h.2.2.2.1]; exact Nat.le_refl _, fun k _ hk => h.2.2.2.2 k (fun e => hk (e ▸ hs))⟩
theorem Turned.cell {w w1 : World} {b : Nat} (h : Turned w w1 b) {p : Addr} (hp : p.block ≠ b) : w1.cell? p = w.cell? p := World.cell?_of_block (w := w) (h.2.2.2.2 _ hp)
theorem Turned.frozen {w w1 : World} {b : Nat} (h : Turned w w1 b) {p : Addr} (hp : p.block ≠ b) : w1.frozen? p = w.frozen? p := World.frozen?_of_block (w := w) (h.2.2.2.2 _ hp)
theorem turned_set {w : World} {b : Nat} {o o' : Obj} (hb : w.heap[b]? = some o) : Turned w { w with heap := w.heap.setIfInBounds b o' } b :=
  ⟨rfl, rfl, rfl, by simp, fun k hk => (heap_set hb).2 k hk⟩
section
variable {P : Program} {w : World} {b : Nat} {f : Int → Option Value} {t K E : TypeId} (ht : P.underlying t = some (.map K E)) (hK : P.underlying K = some (.int .i64))
include ht hK
theorem IMap.run_lookup2 (h : IMap w b f) (z : Value) (hz : (zeroValue E).run P w = .ok z w) (k : Int) :
    (Instr.lookup t (.map (some b)) (.int .i64 k) true).run P w = .ok (.tuple #[(f k).getD z, .bool (f k).isSome]) w := by
  obtain ⟨es, clock, hb, hs, hk, hf⟩ := h
  have hkey : IsKey (.int .i64) (.int .i64 k) := rfl
  rcases findNow_spec hkey es.toList 0 hk with ⟨h1, h2⟩ | ⟨j, e, h1, h2, h3⟩
  · have : f k = none := by rw [← hf k]; exact look_none h2
    simp [Instr.lookup, run_underlying ht, Go.MapKept.run_getObj_map hb, run_checkKey hK hkey, run_findKey hK h1, hz, Result.andThen, this]
  · have : f k = some e.val := by rw [← hf k]; exact look_some hs.2.2 (List.mem_of_getElem? h2) h3
    simp [Instr.lookup, run_underlying ht, Go.MapKept.run_getObj_map hb, run_checkKey hK hkey, run_findKey hK h1, Result.andThen, this]
theorem IMap.run_update (h : IMap w b f) (k : Int) (v : Value) :
    ∃ w1, (Instr.mapUpdate t (.map (some b)) (.int .i64 k) v).run P w = .ok () w1 ∧ IMap w1 b (fun j => if j = k then some v else f j) ∧ Turned w w1 b ∧ w1.drawn = w.drawn := by
  obtain ⟨es, clock, hb, hs, hk, hf⟩ := h
  have hkey : IsKey (.int .i64) (.int .i64 k) := rfl
  rcases findNow_spec hkey es.toList 0 hk with ⟨h1, h2⟩ | ⟨j, e, h1, h2, h3⟩
  · refine ⟨_, by simp [Instr.mapUpdate, run_underlying ht, Go.MapKept.run_getObj_map hb, run_checkKey hK hkey, run_findKey hK h1, Go.MapKept.run_setObj_map _ hb, Result.andThen]; rfl, ?_, turned_set hb, rfl⟩
    refine ⟨_, _, (heap_set hb).1, stamped_push hs h2, ?_, fun q => ?_⟩
    · intro x hx
      simp only [Array.toList_push, List.mem_append, List.mem_singleton] at hx
      rcases hx with hx | rfl
      · exact hk x hx
      · exact hkey
    · dsimp only
      rw [← hf q]
      have hp := stamped_push (val := v) hs h2
      by_cases hq : q = k
      · subst hq
        rw [if_pos rfl]
        exact look_some (e := { key := .int .i64 q, val := v, born := clock }) hp.2.2 (by simp) rfl
      · rw [if_neg hq]
        cases hl : look es.toList q with
        | none =>
          refine look_none fun x hx => ?_
          simp only [Array.toList_push, List.mem_append, List.mem_singleton] at hx
          rcases hx with hx | rfl
          · intro e
            rw [look_some hs.2.2 hx e] at hl
            cases hl
          · intro e
            injection e with _ e
            exact hq e.symm
        | some u =>
          obtain ⟨e, he, h1, h2⟩ := look_mem hl
          rw [← h2]
          exact look_some hp.2.2 (by simp [he]) h1
  · have hj : es[j]? = some e := by simpa using h2
    refine ⟨_, by simp [Instr.mapUpdate, run_underlying ht, Go.MapKept.run_getObj_map hb, run_checkKey hK hkey, run_findKey hK h1, hj, h3, run_keyThatStays hkey, Go.MapKept.run_setObj_map _ hb, Result.andThen]; rfl, ?_, turned_set hb, rfl⟩
    have hk' : ∀ e', es[j]? = some e' → ({ e' with key := .int .i64 k, val := v } : MapEntry).key = e'.key := fun e' he' => by rw [hj] at he'; cases he'; exact h3.symm
    have hst := stamped_modify hs j (fun e => { e with key := .int .i64 k, val := v }) (fun _ _ => rfl) (fun e' _ he' => hk' e' he')
    refine ⟨_, _, (heap_set hb).1, hst, isKey_modify hk _ _ hk', fun q => ?_⟩
    dsimp only
    rw [← hf q]
    have hmem : ∀ x, x ∈ (es.modify j fun e => { e with key := .int .i64 k, val := v }).toList ↔ ∃ i, (if i = j then (es[i]?).map (fun e => { e with key := .int .i64 k, val := v }) else es[i]?) = some x := by
      intro x
      rw [Array.mem_toList_iff, Array.mem_iff_getElem?]
      simp only [Array.getElem?_modify]
      have hsw : ∀ i, (if j = i then (es[i]?).map (fun e => ({ e with key := .int .i64 k, val := v } : MapEntry)) else es[i]?) = (if i = j then (es[i]?).map (fun e => { e with key := .int .i64 k, val := v }) else es[i]?) := by
        intro i
        by_cases hij : i = j
        · rw [if_pos hij, if_pos hij.symm]
        · rw [if_neg hij, if_neg (fun q => hij q.symm)]
      simp only [hsw]
    by_cases hq : q = k
    · subst hq
      rw [if_pos rfl]
      exact look_some (e := { e with key := .int .i64 q, val := v }) hst.2.2 ((hmem _).2 ⟨j, by simp [hj]⟩) rfl
    · rw [if_neg hq]
      cases hl : look es.toList q with
      | none =>
        refine look_none fun x hx he => ?_
        obtain ⟨i, hi⟩ := (hmem x).1 hx
        split at hi
        · rename_i hij
          subst hij
          rw [hj] at hi
          simp only [Option.map_some, Option.some.injEq] at hi
          subst hi
          injection he with _ he
          exact hq he.symm
        · rw [look_some hs.2.2 (Array.mem_toList_iff.2 (Array.mem_of_getElem? hi)) he] at hl
          cases hl
      | some u =>
        obtain ⟨e', he', h1', h2'⟩ := look_mem hl
        rw [← h2']
        obtain ⟨i, hi⟩ := List.mem_iff_getElem?.1 he'
        have hi' : es[i]? = some e' := by simpa using hi
        refine look_some hst.2.2 ((hmem e').2 ⟨i, ?_⟩) h1'
        rw [if_neg, hi']
        rintro rfl
        rw [hj] at hi'
        cases hi'
        rw [h3] at h1'
        injection h1' with _ h1'
        exact hq h1'.symm
end
/-- a size that no list here passes -/
def Lim : Nat := 1099511627776
section
variable {w w1 : World}
theorem blk_lt {p : Nat} {x : Obj} (h : w.heap[p]? = some x) : p < w.heap.size := (Array.getElem?_eq_some_iff.1 h).1
theorem own_slice {base : Nat} {e : TypeId} {size n : Nat} {v : Value} {xs : List Value} (h : w.ownsRow base e size v n xs) : ∃ a c, v = .slice a n c := by
  rcases h.2 with ⟨rfl, rfl⟩ | ⟨g, cap, cur, rfl, _⟩ <;> exact ⟨_, _, rfl⟩
theorem own_map (A : Option Addr) (n c : Nat) : (Value.slice A n c).ownBlock = A.map Addr.block := by cases A <;> rfl
theorem own_lt {base : Nat} {e : TypeId} {size n : Nat} {v : Value} {xs : List Value} (h : w.ownsRow base e size v n xs) {g : Nat} (hg : v.ownBlock = some g) : g < w.heap.size := (h.lt g hg).2
theorem blk_alloc {p : Nat} {x : Obj} (h : w.heap[p]? = some x) (o : Obj) : (w.alloc o).heap[p]? = some x := (Below.heap_alloc w o p (blk_lt h)).trans h
theorem blk_far {p : Nat} {x : Obj} (h : w.heap[p]? = some x) {a : Addr} (hne : p ≠ a.block) (u : Value) : (w.setCell a u).heap[p]? = some x := (Below.heap_setCell w a u p hne).trans h
theorem blk_set {p : Nat} {cs : Array Value} {t : TypeId} {fr : Nat × Nat} (h : w.heap[p]? = some (.cells cs t fr)) (i : Nat) (u : Value) : (w.setCell ⟨p, i, none⟩ u).heap[p]? = some (.cells (cs.setIfInBounds i u) t fr) := by
  simp [World.setCell, Array.getElem?_modify, h]
theorem blk_grown {p : Nat} {x : Obj} {row : Option Nat} (h : w.heap[p]? = some x) (hg : w.grownBy w1 row) (hne : some p ≠ row) : w1.heap[p]? = some x := (hg.block p (blk_lt h) hne).trans h
theorem blk_cell {p : Nat} {cs : Array Value} {t : TypeId} (h : w.heap[p]? = some (.cells cs t (0, 0))) {i : Nat} {x : Value} (hx : cs[i]? = some x) : w.cell? ⟨p, i, none⟩ = some x := (cell_of_row w p i _ _ _ h).trans hx
theorem blk_frozen {p : Nat} {cs : Array Value} {t : TypeId} (h : w.heap[p]? = some (.cells cs t (0, 0))) (i : Nat) : w.frozen? ⟨p, i, none⟩ = false := by simp [World.frozen?, h]
theorem alloc_grown {o : Obj} {row : Option Nat} (hg : (w.alloc o).grownBy w1 row) : w.grownBy w1 row :=
  ⟨hg.os, hg.tape, hg.output, Nat.le_trans (by simp) hg.size, fun k hk hne => (hg.block k (by simp; omega) hne).trans (Below.heap_alloc w o k hk)⟩
theorem new_blk (o : Obj) : (w.alloc o).heap[w.heap.size]? = some o := heap_alloc_new w o
theorem own_far {base : Nat} {e : TypeId} {size n : Nat} {v : Value} {xs : List Value} (h : w.ownsRow base e size v n xs) {a : Addr} (ha : v.ownBlock ≠ some a.block) (u : Value) : (w.setCell a u).ownsRow base e size v n xs := ownsRow_setCell_other h ha u
/-- a row whose element i turns -/
theorem own_set {base : Nat} {e : TypeId} {n g c : Nat} {xs : List Value} (h : w.ownsRow base e 1 (.slice (some ⟨g, 0, none⟩) n c) n xs) (i : Nat) (u : Value) :
    (w.setCell ⟨g, i, none⟩ u).ownsRow base e 1 (.slice (some ⟨g, 0, none⟩) n c) n (xs.set i u) := by
  refine ⟨by simpa using h.1, ?_⟩
  rcases h.2 with ⟨h0, _⟩ | ⟨g', cap, cur, hv, hb, hg, hn, hm, hs, ht⟩
  · cases h0
  · injection hv with h1 _ h3
    injection h1 with h1
    injection h1 with h1 _ _
    subst h1; subst h3
    refine .inr ⟨g, c, _, rfl, hb, blk_set hg i u, hn, hm, by simpa using hs, ?_⟩
    rw [← ht]
    simp only [Array.toList_setIfInBounds, List.take_set]
theorem own_cell {base : Nat} {e : TypeId} {n : Nat} {v : Value} {xs : List Value} (h : w.ownsRow base e 1 v n xs) {i : Nat} {x : Value} (hx : xs[i]? = some x) :
    ∃ g c, v = .slice (some ⟨g, 0, none⟩) n c ∧ w.cell? ⟨g, i, none⟩ = some x ∧ w.frozen? ⟨g, i, none⟩ = false ∧ i < n := by
  rcases h.2 with ⟨_, rfl⟩ | ⟨g, cap, cur, rfl, _, hg, _, _, _, ht⟩
  · have := h.1
    have hl := (List.getElem?_eq_some_iff.1 hx).1
    omega
  · refine ⟨g, cap, rfl, ?_, blk_frozen hg i, ?_⟩
    · have hc := h.cells (g := g) rfl i x hx
      rwa [Addr.add_lit, Nat.zero_add] at hc
    · have := h.1
      have hl := (List.getElem?_eq_some_iff.1 hx).1
      omega
theorem one_cells {g : Nat} {news : List Value} {e : TypeId} {fr : Nat × Nat} (h : w.heap[g]? = some (.cells news.toArray e fr)) : ∀ (j : Nat) (u : Value), news[j]? = some u → w.cell? ((⟨g, 0, none⟩ : Addr).add j) = some u := by
  intro j u hu
  rw [Addr.add_lit, Nat.zero_add]
  exact (cell_of_row w g j _ _ _ h).trans (by simpa using hu)
end
section
variable {P : Program} (w : World)
theorem run_app (base : Nat) (t ty e : TypeId) (i : TypeInfo) (z : Value) (size bytes : Nat) (ht : P.underlying t = some (.slice e)) (hi : P.info? e = some i) (hz : i.zero = some z)
    (hsize : i.size = size) (hby : i.bytes = bytes) (hzs : z.cells.size = size) (hsz : 0 < size)
    (v : Value) (n : Nat) (xs : List Value) (hown : w.ownsRow base e size v n xs)
    (g m c : Nat) (news : List Value) (e' : TypeId) (fr : Nat × Nat) (hr : w.heap[g]? = some (.cells news.toArray e' fr)) (hl : news.length = m * size) (h1 : ∀ u ∈ news, u.oneCell' = true)
    (h63 : n + m ≤ maxLen) (hbytes : (n + m) * bytes ≤ 140737488355328) (hbase : base ≤ w.heap.size) :
    ∃ A C w', (Builtin.append_ #[t, t] ty #[v, .slice (some ⟨g, 0, none⟩) m c]).run P w = .ok (.slice A (n + m) C) w' ∧ w'.ownsRow base e size (.slice A (n + m) C) (n + m) (xs ++ news) ∧ w.grownBy w' v.ownBlock ∧
      (A.map Addr.block = v.ownBlock ∨ A.map Addr.block = some w.heap.size) := by
  obtain ⟨v', w', hrun, h2, h3, _, h5⟩ := run_append_own_at (P := P) w base t ty e i z size bytes ht hi hz hsize hby hzs hsz v n xs hown ⟨g, 0, none⟩ m c news hl (one_cells hr) h1 h63 hbytes hbase
  obtain ⟨A, C, rfl⟩ := own_slice h2
  refine ⟨A, C, w', hrun, h2, h3, ?_⟩
  cases A <;> simpa [Value.ownBlock] using h5
theorem wp_app {o : Oper} {a : Act} {K : Act → World → Prop} {Q : Exit → Act → World → Prop} (s x : Operand) (t : TypeId)
    (ho : o.op = .call { callee := .builtin .append, args := #[s, x], argTypes := #[t, t] })
    (base : Nat) (e : TypeId) (i : TypeInfo) (z : Value) (size bytes : Nat) (ht : P.underlying t = some (.slice e)) (hi : P.info? e = some i) (hz : i.zero = some z)
    (hsize : i.size = size) (hby : i.bytes = bytes) (hzs : z.cells.size = size) (hsz : 0 < size)
    (v : Value) (n : Nat) (xs : List Value) (hs : a.eval s = v) (hown : w.ownsRow base e size v n xs)
    (g m c : Nat) (news : List Value) (e' : TypeId) (fr : Nat × Nat) (hx : a.eval x = .slice (some ⟨g, 0, none⟩) m c) (hr : w.heap[g]? = some (.cells news.toArray e' fr)) (hl : news.length = m * size) (h1 : ∀ u ∈ news, u.oneCell' = true)
    (h63 : n + m ≤ maxLen) (hbytes : (n + m) * bytes ≤ 140737488355328) (hbase : base ≤ w.heap.size)
    (h : ∀ A C w', w'.ownsRow base e size (.slice A (n + m) C) (n + m) (xs ++ news) → w.grownBy w' v.ownBlock → (A.map Addr.block = v.ownBlock ∨ A.map Addr.block = some w.heap.size) → K (a.put o.dst (.slice A (n + m) C)) w') : o.wp P a w K Q := by
  obtain ⟨A, C, w', hrun, h2, h3, h4⟩ := run_app (P := P) w base t o.type e i z size bytes ht hi hz hsize hby hzs hsz v n xs hown g m c news e' fr hr hl h1 h63 hbytes hbase
  unfold Oper.wp execOp
  simp only [ho, resolve, invoke, builtin, Sem.run_bind, Sem.run_pure, Result.andThen_ok, List.map_toArray, List.map_cons, List.map_nil, hs, hx, hrun]
  exact h A C w' h2 h3 h4
theorem wpl_app {ops : Array Oper} {rest : List Oper} {o : Oper} {a : Act} {Q : Exit → Act → World → Prop} (hgd : o.guard = none) (s x : Operand) (t : TypeId)
    (ho : o.op = .call { callee := .builtin .append, args := #[s, x], argTypes := #[t, t] })
    (base : Nat) (e : TypeId) (i : TypeInfo) (z : Value) (size bytes : Nat) (ht : P.underlying t = some (.slice e)) (hi : P.info? e = some i) (hz : i.zero = some z)
    (hsize : i.size = size) (hby : i.bytes = bytes) (hzs : z.cells.size = size) (hsz : 0 < size)
    (v : Value) (n : Nat) (xs : List Value) (hs : a.eval s = v) (hown : w.ownsRow base e size v n xs)
    (g m c : Nat) (news : List Value) (e' : TypeId) (fr : Nat × Nat) (hx : a.eval x = .slice (some ⟨g, 0, none⟩) m c) (hr : w.heap[g]? = some (.cells news.toArray e' fr)) (hl : news.length = m * size) (h1 : ∀ u ∈ news, u.oneCell' = true)
    (h63 : n + m ≤ maxLen) (hbytes : (n + m) * bytes ≤ 140737488355328) (hbase : base ≤ w.heap.size)
    (h : ∀ A C w', w'.ownsRow base e size (.slice A (n + m) C) (n + m) (xs ++ news) → w.grownBy w' v.ownBlock → (A.map Addr.block = v.ownBlock ∨ A.map Addr.block = some w.heap.size) → wpList P ops Q rest (a.put o.dst (.slice A (n + m) C)) w') : wpList P ops Q (o :: rest) a w :=
  wpList_plain hgd fun _ hK => wp_app w s x t ho base e i z size bytes ht hi hz hsize hby hzs hsz v n xs hs hown g m c news e' fr hx hr hl h1 h63 hbytes hbase fun A C w' h2 h3 h4 => hK _ _ (h A C w' h2 h3 h4)
theorem step_app {ops : Array Oper} {o : Oper} {a : Act} {K : Act → World → Prop} {Q : Exit → Act → World → Prop} {E : Prop} (hgd : o.guard = none) (s x : Operand) (t : TypeId)
    (ho : o.op = .call { callee := .builtin .append, args := #[s, x], argTypes := #[t, t] })
    (base : Nat) (e : TypeId) (i : TypeInfo) (z : Value) (size bytes : Nat) (ht : P.underlying t = some (.slice e)) (hi : P.info? e = some i) (hz : i.zero = some z)
    (hsize : i.size = size) (hby : i.bytes = bytes) (hzs : z.cells.size = size) (hsz : 0 < size)
    (v : Value) (n : Nat) (xs : List Value) (hs : a.eval s = v) (hown : w.ownsRow base e size v n xs)
    (g m c : Nat) (news : List Value) (e' : TypeId) (fr : Nat × Nat) (hx : a.eval x = .slice (some ⟨g, 0, none⟩) m c) (hr : w.heap[g]? = some (.cells news.toArray e' fr)) (hl : news.length = m * size) (h1 : ∀ u ∈ news, u.oneCell' = true)
    (h63 : n + m ≤ maxLen) (hbytes : (n + m) * bytes ≤ 140737488355328) (hbase : base ≤ w.heap.size)
    (h : ∀ A C w', w'.ownsRow base e size (.slice A (n + m) C) (n + m) (xs ++ news) → w.grownBy w' v.ownBlock → (A.map Addr.block = v.ownBlock ∨ A.map Addr.block = some w.heap.size) → K (a.put o.dst (.slice A (n + m) C)) w') :
    if Region.wanted o (yielded ops a.tmps) = true then Oper.wp P o a w K Q else E := by
  have hw : Region.wanted o (yielded ops a.tmps) = true := by simp [Region.wanted, hgd]
  rw [if_pos hw]
  exact wp_app w s x t ho base e i z size bytes ht hi hz hsize hby hzs hsz v n xs hs hown g m c news e' fr hx hr hl h1 h63 hbytes hbase h
end
/-- the row's first cells stay -/
def Stays (e : TypeId) (w w' : World) (v : Value) (n : Nat) : Prop := ∀ g, v.ownBlock = some g → (∀ j, j < n → w'.cell? ⟨g, j, none⟩ = w.cell? ⟨g, j, none⟩) ∧ ∃ cells, w'.heap[g]? = some (.cells cells e (0, 0))
section
variable {P : Program} {w : World}
theorem own_typed' {base n : Nat} {e : TypeId} {v : Value} {xs : List Value} (h : w.ownsRow base e 1 v n xs) {g : Nat} (hg : v.ownBlock = some g) : ∃ cells, w.heap[g]? = some (.cells cells e (0, 0)) := by
  rcases h.2 with ⟨rfl, _⟩ | ⟨g', cap, cur, rfl, _, hh, _⟩
  · cases hg
  · injection hg with hg
    subst hg
    exact ⟨cur, hh⟩
theorem own_cells_at {base n : Nat} {e : TypeId} {v : Value} {xs : List Value} (h : w.ownsRow base e 1 v n xs) {g : Nat} (hg : v.ownBlock = some g) : ∀ (j : Nat) (x : Value), xs[j]? = some x → w.cell? ⟨g, j, none⟩ = some x := by
  intro j x hx
  obtain ⟨g', c', he, h1, _⟩ := own_cell h hx
  subst he
  obtain rfl : g' = g := by simpa [Value.ownBlock] using hg
  exact h1
theorem run_appk (base : Nat) (t ty e : TypeId) (i : TypeInfo) (z : Value) (bytes : Nat) (ht : P.underlying t = some (.slice e)) (hi : P.info? e = some i) (hz : i.zero = some z)
    (hsize : i.size = 1) (hby : i.bytes = bytes) (hzs : z.cells.size = 1)
    (v : Value) (n : Nat) (xs : List Value) (hown : w.ownsRow base e 1 v n xs)
    (g : Nat) (x : Value) (e' : TypeId) (fr : Nat × Nat) (hr : w.heap[g]? = some (.cells #[x] e' fr)) (h1 : x.oneCell' = true)
    (h63 : n + 1 ≤ maxLen) (hbytes : (n + 1) * bytes ≤ 140737488355328) (hbase : base ≤ w.heap.size) :
    ∃ A C w', (Builtin.append_ #[t, t] ty #[v, .slice (some ⟨g, 0, none⟩) 1 1]).run P w = .ok (.slice A (n + 1) C) w' ∧ w'.ownsRow base e 1 (.slice A (n + 1) C) (n + 1) (xs ++ [x]) ∧ w.grownBy w' v.ownBlock ∧
      ((A.map Addr.block = v.ownBlock ∨ A.map Addr.block = some w.heap.size) ∧ Stays e w w' v n) := by
  obtain ⟨A, C, w', hrun, h2, h3, h4⟩ := run_app (P := P) w base t ty e i z 1 bytes ht hi hz hsize hby hzs (by omega) v n xs hown g 1 1 [x] e' fr hr rfl (by simpa using h1) h63 hbytes hbase
  refine ⟨A, C, w', hrun, h2, h3, h4, fun q hq => ?_⟩
  rcases h4 with h4 | h4
  · refine ⟨fun j hj => ?_, own_typed' h2 (by rw [own_map, h4, hq])⟩
    have hcell := own_cells_at h2 (g := q) (by rw [own_map, h4, hq])
    have hold := own_cells_at hown (g := q) hq
    have hl := hown.1
    have hx : j < xs.length := by omega
    rw [hcell j (xs[j]'hx) (by rw [List.getElem?_append_left hx]; exact List.getElem?_eq_getElem hx), hold j (xs[j]'hx) (List.getElem?_eq_getElem hx)]
  · rcases hown.2 with ⟨rfl, rfl⟩ | ⟨g0, cap, cur, rfl, hbg, hg, hnc, hcm, hcs, htake⟩
    · cases hq
    · obtain rfl : g0 = q := by simpa [Value.ownBlock] using hq
      have hlt := blk_lt hg
      by_cases hroom : n + 1 ≤ cap
      · have hroomr := run_append_room (P := P) w t ty e i ht hi g0 n cap cur hg ⟨g, 0, none⟩ 1 1 [x] (by rw [hsize]; rfl) (one_cells (by simpa using hr)) (by simpa using h1) hroom (by rw [hsize, hcs]; simp; omega)
        rw [hroomr] at hrun
        injection hrun with hv _
        injection hv with ha _ _
        subst ha
        simp at h4
        omega
      · have holds : ∀ j u, xs[j]? = some u → w.cell? ((⟨g0, 0, none⟩ : Addr).add j) = some u := hown.cells (g := g0) rfl
        have hgr := run_append_grow (P := P) w t ty e i z ht hi hz ⟨g0, 0, none⟩ n cap xs (by rw [hsize]; exact hown.1) holds ⟨g, 0, none⟩ 1 1 [x] (by rw [hsize]; rfl) (one_cells (by simpa using hr)) (by omega) (by simp only [maxLen] at h63; omega) (growslice_fits (by omega) (by rw [hby]; exact hbytes))
        rw [hgr] at hrun
        injection hrun with _ hw
        subst hw
        have hb := Below.heap_alloc w.drew (.cells (xs.toArray ++ #[x] ++ Builtin.zeroCells z.cells (grownCap w (n + 1) cap e - (n + 1))) e) g0 hlt
        first
          | exact ⟨fun j hj => World.cell?_of_block (w := w) hb, cur, hb.trans hg⟩
          | exact ⟨fun j hj => World.cell?_of_block (w := w) (Below.heap_alloc w.drew _ _ hlt), cur, (Below.heap_alloc w.drew _ _ hlt).trans hg⟩
theorem wp_appk {o : Oper} {a : Act} {K : Act → World → Prop} {Q : Exit → Act → World → Prop} (s x : Operand) (t : TypeId)
    (ho : o.op = .call { callee := .builtin .append, args := #[s, x], argTypes := #[t, t] })
    (base : Nat) (e : TypeId) (i : TypeInfo) (z : Value) (bytes : Nat) (ht : P.underlying t = some (.slice e)) (hi : P.info? e = some i) (hz : i.zero = some z)
    (hsize : i.size = 1) (hby : i.bytes = bytes) (hzs : z.cells.size = 1)
    (v : Value) (n : Nat) (xs : List Value) (hs : a.eval s = v) (hown : w.ownsRow base e 1 v n xs)
    (g : Nat) (u : Value) (e' : TypeId) (fr : Nat × Nat) (hx : a.eval x = .slice (some ⟨g, 0, none⟩) 1 1) (hr : w.heap[g]? = some (.cells #[u] e' fr)) (h1 : u.oneCell' = true)
    (h63 : n + 1 ≤ maxLen) (hbytes : (n + 1) * bytes ≤ 140737488355328) (hbase : base ≤ w.heap.size)
    (h : ∀ A C w', w'.ownsRow base e 1 (.slice A (n + 1) C) (n + 1) (xs ++ [u]) → w.grownBy w' v.ownBlock → ((A.map Addr.block = v.ownBlock ∨ A.map Addr.block = some w.heap.size) ∧ Stays e w w' v n) → K (a.put o.dst (.slice A (n + 1) C)) w') : o.wp P a w K Q := by
  obtain ⟨A, C, w', hrun, h2, h3, h4⟩ := run_appk (P := P) (w := w) base t o.type e i z bytes ht hi hz hsize hby hzs v n xs hown g u e' fr hr h1 h63 hbytes hbase
  unfold Oper.wp execOp
  simp only [ho, resolve, invoke, builtin, Sem.run_bind, Sem.run_pure, Result.andThen_ok, List.map_toArray, List.map_cons, List.map_nil, hs, hx, hrun]
  exact h A C w' h2 h3 h4
theorem wpl_appk {ops : Array Oper} {rest : List Oper} {o : Oper} {a : Act} {Q : Exit → Act → World → Prop} (hgd : o.guard = none) (s x : Operand) (t : TypeId)
    (ho : o.op = .call { callee := .builtin .append, args := #[s, x], argTypes := #[t, t] })
    (base : Nat) (e : TypeId) (i : TypeInfo) (z : Value) (bytes : Nat) (ht : P.underlying t = some (.slice e)) (hi : P.info? e = some i) (hz : i.zero = some z)
    (hsize : i.size = 1) (hby : i.bytes = bytes) (hzs : z.cells.size = 1)
    (v : Value) (n : Nat) (xs : List Value) (hs : a.eval s = v) (hown : w.ownsRow base e 1 v n xs)
    (g : Nat) (u : Value) (e' : TypeId) (fr : Nat × Nat) (hx : a.eval x = .slice (some ⟨g, 0, none⟩) 1 1) (hr : w.heap[g]? = some (.cells #[u] e' fr)) (h1 : u.oneCell' = true)
    (h63 : n + 1 ≤ maxLen) (hbytes : (n + 1) * bytes ≤ 140737488355328) (hbase : base ≤ w.heap.size)
    (h : ∀ A C w', w'.ownsRow base e 1 (.slice A (n + 1) C) (n + 1) (xs ++ [u]) → w.grownBy w' v.ownBlock → ((A.map Addr.block = v.ownBlock ∨ A.map Addr.block = some w.heap.size) ∧ Stays e w w' v n) → wpList P ops Q rest (a.put o.dst (.slice A (n + 1) C)) w') : wpList P ops Q (o :: rest) a w :=
  wpList_plain hgd fun _ hK => wp_appk s x t ho base e i z bytes ht hi hz hsize hby hzs v n xs hs hown g u e' fr hx hr h1 h63 hbytes hbase fun A C w' h2 h3 h4 => hK _ _ (h A C w' h2 h3 h4)
end
/-- what block is whose: (0, 0) the table itself, (1, i) the map of stripe i, (2, k) the entry of key k -/
abbrev TLab := Nat → Option (Nat × Int)
abbrev Fresh (w w' : World) : Prop := Only w w' fun _ => False
def EntIs (w : World) (lab : TLab) (k : Int) : Option Value → Option ByteArray → Prop
  | none, none => True
  | some v, some s => ∃ eb, v = .pointer (some ⟨eb, 0, none⟩) ∧ w.heap[eb]? = some (.cells #[.int .u32 1, .string s] 127 (0, 0)) ∧ lab eb = some (2, k)
  | _, _ => False
structure TabIs (lk : Nat → Int) (w : World) (tb : Nat) (lab : TLab) (T : Int → Option ByteArray) (bm : Nat → Nat) (f : Nat → Int → Option Value) (cs : Array Value) : Prop where
  self : w.heap[tb]? = some (.cells cs 89 (0, 0))
  lock : ∀ i, i < 8 → cs[i * 3]? = some (.int .i32 (lk i))
  mapc : ∀ i, i < 8 → cs[i * 3 + 2]? = some (.map (some (bm i)))
  lself : lab tb = some (0, 0)
  maps : ∀ i, i < 8 → IMap w (bm i) (f i)
  lmap : ∀ i, i < 8 → lab (bm i) = some (1, (i : Int))
  ents : ∀ i, i < 8 → ∀ k : Int, EntIs w lab k (f i k) (if k % 8 = (i : Int) then T k else none)
  old : ∀ b, lab b ≠ none → b < w.heap.size
def TabAt (w : World) (tb : Nat) (lab : TLab) (T : Int → Option ByteArray) : Prop := ∃ bm f cs, TabIs (fun _ => 0) w tb lab T bm f cs
/-- a call that works on the blocks of lab alone; they are those of lab' then -/
structure TExt (w w' : World) (lab lab' : TLab) : Prop where
  only : Only w w' fun b => lab b ≠ none
  keep : ∀ b, lab b ≠ none → lab' b = lab b
  new : ∀ b, lab' b ≠ none → lab b ≠ none ∨ w.heap.size ≤ b
theorem TExt.same {w w' : World} {lab : TLab} (h : Only w w' fun b => lab b ≠ none) : TExt w w' lab lab := ⟨h, fun _ _ => rfl, fun _ h => .inl h⟩
section
variable {lk : Nat → Int} {w w2 : World} {tb : Nat} {lab : TLab} {T : Int → Option ByteArray} {bm : Nat → Nat} {f : Nat → Int → Option Value} {cs : Array Value}
theorem EntIs.only {S : Nat → Prop} {k : Int} {a : Option Value} {b : Option ByteArray} (h : EntIs w lab k a b) (ho : Only w w2 S) (hs : ∀ c, lab c = some (2, k) → ¬ S c) : EntIs w2 lab k a b := by
  unfold EntIs at h ⊢
  split at h
  · trivial
  · obtain ⟨eb, h1, h2, h3⟩ := h
    exact ⟨eb, h1, ho.blk h2 (hs eb h3), h3⟩
  · exact h
theorem EntIs.relab {k : Int} {a : Option Value} {b : Option ByteArray} {lab' : TLab} (h : EntIs w lab k a b) (hl : ∀ c, lab c ≠ none → lab' c = lab c) : EntIs w lab' k a b := by
  unfold EntIs at h ⊢
  split at h
  · trivial
  · obtain ⟨eb, h1, h2, h3⟩ := h
    exact ⟨eb, h1, h2, by rw [hl eb (by simp [h3])]; exact h3⟩
  · exact h
theorem TabIs.only {S : Nat → Prop} (h : TabIs lk w tb lab T bm f cs) (ho : Only w w2 S) (hs : ∀ b, lab b ≠ none → ¬ S b) : TabIs lk w2 tb lab T bm f cs where
  self := ho.blk h.self (hs tb (by simp [h.lself]))
  lock := h.lock
  mapc := h.mapc
  lself := h.lself
  maps := fun i hi => (h.maps i hi).only ho (hs _ (by simp [h.lmap i hi]))
  lmap := h.lmap
  ents := fun i hi k => (h.ents i hi k).only ho fun c hc => hs c (by simp [hc])
  old := fun b hb => Nat.lt_of_lt_of_le (h.old b hb) ho.size
theorem TabAt.only {S : Nat → Prop} (h : TabAt w tb lab T) (ho : Only w w2 S) (hs : ∀ b, lab b ≠ none → ¬ S b) : TabAt w2 tb lab T := by
  obtain ⟨bm, f, cs, h⟩ := h
  exact ⟨bm, f, cs, h.only ho hs⟩
theorem tlab_ne {x y : Nat} {r s : Nat × Int} (hx : lab x = some r) (hy : lab y = some s) (hrs : r ≠ s) : x ≠ y := fun e => by
  rw [e, hy] at hx
  injection hx with hx
  exact hrs hx.symm
/-- the lock of a stripe turns -/
theorem TabIs.locked (h : TabIs lk w tb lab T bm f cs) {i : Nat} (hi : i < 8) (x : Int) : TabIs (fun j => if j = i then x else lk j) (w.setCell ⟨tb, i * 3, none⟩ (.int .i32 x)) tb lab T bm f (cs.setIfInBounds (i * 3) (.int .i32 x)) := by
  have ho : Only w (w.setCell ⟨tb, i * 3, none⟩ (.int .i32 x)) fun b => b = tb := (Only.refl w (fun b => b = tb)).setCell (p := ⟨tb, i * 3, none⟩) (.inl rfl) _
  have hsz : i * 3 < cs.size := (Array.getElem?_eq_some_iff.1 (h.lock i hi)).1
  refine ⟨blk_set h.self _ _, fun j hj => ?_, fun j hj => ?_, h.lself, fun j hj => (h.maps j hj).only ho (tlab_ne (h.lmap j hj) h.lself (by simp)), h.lmap, fun j hj k => (h.ents j hj k).only ho fun c hc => tlab_ne hc h.lself (by simp), fun b hb => by simpa using h.old b hb⟩
  · by_cases e : j = i
    · subst e
      simp [hsz]
    · rw [Array.getElem?_setIfInBounds_ne (by omega), if_neg e]
      exact h.lock j hj
  · rw [Array.getElem?_setIfInBounds_ne (by omega)]
    exact h.mapc j hj
/-- a key more: its entry is block eb, which is new -/
theorem TabIs.put (h : TabIs lk w tb lab T bm f cs) {i : Nat} (hi : i < 8) {k : Int} (hk : k % 8 = (i : Int)) {eb : Nat} {s : ByteArray} (heb : w.heap.size ≤ eb) (hm : IMap w2 (bm i) (fun j => if j = k then some (.pointer (some ⟨eb, 0, none⟩)) else f i j))
    (ho : Only w w2 fun b => b = bm i) (hb : w2.heap[eb]? = some (.cells #[.int .u32 1, .string s] 127 (0, 0))) :
    TabIs lk w2 tb (fun b => if b = eb then some (2, k) else lab b) (fun j => if j = k then some s else T j) bm (fun j => if j = i then (fun l => if l = k then some (.pointer (some ⟨eb, 0, none⟩)) else f i l) else f j) cs := by
  have hkeep : ∀ {c r}, lab c = some r → (fun b => if b = eb then some (2, k) else lab b) c = some r := fun {c r} hc => by
    have := h.old c (by simp [hc])
    show (if c = eb then some (2, k) else lab c) = _
    rw [if_neg (by omega)]
    exact hc
  have hkeep2 : ∀ c, lab c ≠ none → (fun b => if b = eb then some (2, k) else lab b) c = lab c := fun c hc => by
    have := h.old c hc
    show (if c = eb then some (2, k) else lab c) = _
    rw [if_neg (by omega)]
  refine ⟨ho.blk h.self (tlab_ne h.lself (h.lmap i hi) (by simp)), h.lock, h.mapc, hkeep h.lself, fun j hj => ?_, fun j hj => hkeep (h.lmap j hj), fun j hj l => ?_, fun b hb' => ?_⟩
  · skip
    by_cases e : j = i
    · subst e
      rw [if_pos rfl]
      exact hm
    · rw [if_neg e]
      exact (h.maps j hj).only ho (tlab_ne (h.lmap j hj) (h.lmap i hi) (by simp; omega))
  · skip
    by_cases el : l = k
    · subst el
      by_cases e : j = i
      · subst e
        rw [if_pos rfl, if_pos rfl, if_pos hk, if_pos rfl]
        exact ⟨eb, rfl, hb, if_pos rfl⟩
      · rw [if_neg e, if_neg (by omega)]
        have := h.ents j hj l
        rw [if_neg (by omega)] at this
        exact (this.only ho fun c hc => tlab_ne hc (h.lmap i hi) (by simp)).relab hkeep2
    · rw [if_neg el]
      have := ((h.ents j hj l).only ho fun c hc => tlab_ne hc (h.lmap i hi) (by simp)).relab hkeep2
      by_cases e : j = i
      · subst e
        rw [if_pos rfl, if_neg el]
        exact this
      · rw [if_neg e]
        exact this
  · by_cases e : b = eb
    · subst e
      exact blk_lt hb
    · have hb2 : lab b ≠ none := by
        have h3 : (if b = eb then some (2, k) else lab b) ≠ none := hb'
        rwa [if_neg e] at h3
      exact Nat.lt_of_lt_of_le (h.old b hb2) ho.size
end
end Go.Proofs.Ytihjpbalkjhjbaa
namespace Go.Proofs.Ytihjpbalkjhjbaa
abbrev muLink : Go.Conc.Locks.MuLink := { lock := 35, unlock := 36, ilock := 56, iunlock := 57, lockSlow := 70, unlockSlow := 73, disable := 66, enable := 68, acquire := 69, relMerge := 71, cas32 := 67, add32 := 72, tMutex := 83, tIMutex := 81, tPMutex := 120, tPIMutex := 138, tPI32 := 140, tUP := 142, tNoCopy := 78, tU32 := 79 }
theorem muLib : Go.Conc.Locks.MuLib Try.prog muLink :=
  ⟨Try.func35, Try.func36, Try.func56, Try.func57, Try.func66, Try.func68, Try.func69, Try.func71, Try.func67, Try.func72,
   Try.underlying81, Try.runUnderlying81, Try.sizeOf81, Try.isAgg81, Try.zeroValue81, Try.underlying83, Try.runUnderlying83, Try.sizeOf83, Try.isAgg83, Try.zeroValue83,
   Try.underlying120, Try.runUnderlying120, Try.sizeOf120, Try.isAgg120, Try.zeroValue120, Try.underlying138, Try.runUnderlying138, Try.sizeOf138, Try.isAgg138, Try.zeroValue138,
   Try.underlying140, Try.runUnderlying140, Try.sizeOf140, Try.isAgg140, Try.zeroValue140, Try.underlying142, Try.runUnderlying142, Try.sizeOf142, Try.isAgg142, Try.zeroValue142,
   Try.underlying78, Try.runUnderlying78, Try.sizeOf78, Try.isAgg78, Try.zeroValue78, Try.underlying21, Try.runUnderlying21, Try.sizeOf21, Try.isAgg21, Try.zeroValue21, (by kernel_rfl)⟩
end Go.Proofs.Ytihjpbalkjhjbaa
namespace Go.Proofs.Ytihjpbalkjhjbaa
open Go.RowKit Go.MapKept Go.MuLone
theorem tmod8 (k : Int) : (k.tmod 8 + 8) % 8 = k % 8 ∧ -8 < k.tmod 8 ∧ k.tmod 8 < 8 := by
  rcases Int.lt_or_le k 0 with h | h
  · have h1 : k.tmod 8 = -((-k) % 8) := by
      rw [← Int.tmod_eq_emod_of_nonneg (by omega : (0:Int) ≤ -k), Int.neg_tmod]
      omega
    rw [h1]
    omega
  · rw [Int.tmod_eq_emod_of_nonneg h]
    omega
set_option maxHeartbeats 400000 in
theorem place_any (w : World) (k : Int) (i : Nat) (hi : k % 8 = (i : Int)) : Calls Try.prog 34 #[.int .i64 k] w fun e w' => e = .returned (.int .i64 (i : Nat)) ∧ w' = w := by
  obtain ⟨h, b1, b2⟩ := tmod8 k
  rw [hi] at h
  generalize hm : k.tmod 8 = m at *
  have hw : IntKind.i64.wrap (m + 8) = m + 8 := IntWalk.i64_in _ (by omega)
  have hw2 : wrap64 (m + 8) = m + 8 := by unfold wrap64; omega
  have H := Lib.hid h
  clear h
  go_enter Try.func34, Try.ntmps34
  go_wp2_with fail
  go_ret
  exact ⟨by rw [← H.out]; rfl, rfl⟩
set_option maxHeartbeats 400000 in
theorem ready_load (a : Addr) (w : World) (h0 : w.cell? a = some (.int .u32 1)) :
    Calls Try.prog 58 #[.pointer (some a)] w fun e w' => e = .returned (.bool true) ∧ w' = w := by
  have hl := run_call_load (P := Try.prog) Try.func74 (by kernel_rfl) (by kernel_rfl) (by kernel_rfl) .u32 (by kernel_rfl) h0
  go_enter Try.func58, Try.ntmps58
  go_wp2_with fail
  go_ret
  exact ⟨rfl, rfl⟩
set_option maxHeartbeats 400000 in
theorem b32_true (w : World) : Calls Try.prog 78 #[.bool true] w fun e w' => e = .returned (.int .u32 1) ∧ w' = w := by
  go_enter Try.func78, Try.ntmps78
  go_wp2_with fail
  go_ret
  exact ⟨rfl, rfl⟩
set_option maxRecDepth 100000 in
set_option maxHeartbeats 400000 in
theorem ready_store (b : Nat) (w : World) (h0 : w.cell? ⟨b, 0, none⟩ = some (.int .u32 0)) (hz : w.frozen? ⟨b, 0, none⟩ = false) :
    Calls Try.prog 60 #[.pointer (some ⟨b, 0, none⟩), .bool true] w fun e w' => e = .returned (.tuple #[]) ∧ Only w w' (fun c => c = b) ∧ w'.cell? ⟨b, 0, none⟩ = some (.int .u32 1) ∧ (∀ cs t, w.heap[b]? = some (.cells cs t (0, 0)) → w'.heap[b]? = some (.cells (cs.setIfInBounds 0 (.int .u32 1)) t (0, 0))) := by
  have hl : ∀ w1 : World, w1.cell? ⟨b, 0, none⟩ = some (.int .u32 0) → w1.frozen? ⟨b, 0, none⟩ = false → _ := fun w1 h1 h2 => run_call_store (P := Try.prog) Try.func77 (by kernel_rfl) (by kernel_rfl) (by kernel_rfl) (by kernel_rfl) (k := .u32) (y := 1) h1 h2
  have hl1 := hl w h0 hz
  have hl2 := hl w.drew h0 hz
  clear hl
  go_enter Try.func60, Try.ntmps60
  have HB := Lib.hid b32_true
  go_wp2_with fail
  refine wp_region_still_tail 5 (by kernel_rfl) (by kernel_rfl) ?_
  simp only [List.take_succ_cons, List.take_zero, List.drop_succ_cons, List.drop_zero]
  repeat still_step
  still_call (HB.out _)
  repeat still_step
  refine wpStill_nil ?_
  go_wp2_with fail
  go_end0
  exact ⟨rfl, ((Only.refl w (fun c => c = b)).drew).setCell (p := ⟨b, 0, none⟩) (.inl rfl) _, World.cell?_setCell_same w.drew ⟨b, 0, none⟩ (.int .u32 1) h0, fun cs t hb => blk_set (w := w.drew) hb 0 _⟩
theorem nameW {C : Code} {Q : Exit → Act → World → Prop} {a : Act} {W : World} (h : ∀ V, V = W → Code.wp Try.prog C Q a V) : Code.wp Try.prog C Q a W := h W rfl
theorem alloc_only (w : World) (o : Obj) : Fresh w (w.alloc o) := (Only.refl _ _).alloc o
theorem Fresh.cel2 {w w1 : World} (h : Fresh w w1) {p : Addr} (hp : p.block < w.heap.size) : w1.cell? p = w.cell? p := Only.cell h hp (fun q => q)
theorem zeroEnt (w : World) : (zeroValue 121).run Try.prog w = .ok (.pointer none) w := by kernel_rfl
set_option maxRecDepth 100000 in
set_option maxHeartbeats 1000000 in
theorem publish_old (w : World) (tb i bm eb : Nat) (f : Int → Option Value) (k : Int) (s : ByteArray) (c2 : w.cell? ⟨tb, i * 3 + 2, none⟩ = some (.map (some bm))) (hm : IMap w bm f) (hf : f k = some (.pointer (some ⟨eb, 0, none⟩))) (he : w.cell? ⟨eb, 0, none⟩ = some (.int .u32 1)) :
    Calls Try.prog 39 #[.pointer (some ⟨tb, i * 3, none⟩), .int .i64 k, .string s] w fun e w' => e = .returned (.bool false) ∧ w' = w := by
  have hl := IMap.run_lookup2 Try.underlying84 Try.underlying3 hm _ (zeroEnt _) k
  rw [hf] at hl
  simp only [Option.getD_some, Option.isSome_some] at hl
  have HR := Lib.hid (ready_load ⟨eb, 0, none⟩ w he)
  clear hm hf he
  go_enter Try.func39, Try.ntmps39
  go_wp2_with fail
  refine HR.out.mono ?_
  rintro e w' ⟨rfl, rfl⟩
  go_wp2_with fail
  go_ret
  exact ⟨rfl, rfl⟩
/-- behind a publish of a key that was not there: the entry is a new block, and in the map -/
def PubNew (w w' : World) (bm : Nat) (f : Int → Option Value) (k : Int) (s : ByteArray) : Prop :=
  ∃ eb, w.heap.size ≤ eb ∧ IMap w' bm (fun j => if j = k then some (.pointer (some ⟨eb, 0, none⟩)) else f j) ∧ Only w w' (fun b => b = bm) ∧ w'.heap[eb]? = some (.cells #[.int .u32 1, .string s] 127 (0, 0))
set_option maxRecDepth 100000 in
set_option maxHeartbeats 1000000 in
theorem publish_new (w : World) (tb i bm : Nat) (f : Int → Option Value) (k : Int) (s : ByteArray) (c2 : w.cell? ⟨tb, i * 3 + 2, none⟩ = some (.map (some bm))) (hm : IMap w bm f) (hf : f k = none) :
    Calls Try.prog 39 #[.pointer (some ⟨tb, i * 3, none⟩), .int .i64 k, .string s] w fun e w' => e = .returned (.bool true) ∧ PubNew w w' bm f k s := by
  have hl := IMap.run_lookup2 Try.underlying84 Try.underlying3 hm _ (zeroEnt _) k
  rw [hf] at hl
  simp only [Option.getD_none, Option.isSome_none] at hl
  have htb := World.block_lt_of_cell? _ _ c2
  have HM := Lib.hid hm
  have HC2 := Lib.hid c2
  clear hm hf
  go_enter Try.func39, Try.ntmps39
  go_wp2_with fail
  refine (ready_store w.heap.size _ ?_ ?_).mono ?_
  · exact blk_cell (new_blk _) rfl
  · exact blk_frozen (new_blk _) _
  clear hl c2
  rintro e w1 ⟨rfl, ho, _, hb⟩
  have hb1 := hb _ _ (new_blk _)
  have hlt1 := HM.out.lt
  have hm1 : IMap w1 bm f := ((HM.out.only (alloc_only w _) (fun q => q)).only ho (by omega))
  have c2 : w1.cell? ⟨tb, i * 3 + 2, none⟩ = some (.map (some bm)) := (ho.cell (p := ⟨tb, i * 3 + 2, none⟩) (Nat.lt_of_lt_of_le htb (by simp)) (by dsimp only at htb ⊢; omega)).trans ((Fresh.cel2 (alloc_only w _) htb).trans HC2.out)
  obtain ⟨w2, hrun, hm2, hturn, hdr⟩ := IMap.run_update Try.underlying84 Try.underlying3 hm1 k (.pointer (some ⟨w.heap.size, 0, none⟩))
  have HH := Lib.hid (And.intro hm2 (And.intro hturn (And.intro ho hb1)))
  clear hm1 hm2 hturn hdr ho hb1 hb
  go_wp2_with fail
  go_ret
  obtain ⟨hm2, hturn, ho, hb1⟩ := HH.out
  refine ⟨rfl, w.heap.size, Nat.le_refl _, hm2, ?_, ?_⟩
  · exact (((Only.refl w (fun b => b = bm)).alloc _).trans ho fun b q => .inr (by omega)).trans (hturn.only (S := fun b => b = bm) rfl) fun b q => .inl q
  · rw [hturn.2.2.2.2 _ (by omega)]
    exact hb1
set_option maxRecDepth 100000 in
set_option maxHeartbeats 1000000 in
theorem lookup_some (w : World) (tb i bm eb : Nat) (f : Int → Option Value) (k : Int) (s : ByteArray) (c2 : w.cell? ⟨tb, i * 3 + 2, none⟩ = some (.map (some bm))) (hm : IMap w bm f) (hf : f k = some (.pointer (some ⟨eb, 0, none⟩))) (he : w.cell? ⟨eb, 0, none⟩ = some (.int .u32 1)) (he1 : w.cell? ⟨eb, 1, none⟩ = some (.string s)) :
    Calls Try.prog 37 #[.pointer (some ⟨tb, i * 3, none⟩), .int .i64 k] w fun e w' => e = .returned (.tuple #[.string s, .bool true]) ∧ w' = w := by
  have hl := IMap.run_lookup2 Try.underlying84 Try.underlying3 hm _ (zeroEnt _) k
  rw [hf] at hl
  simp only [Option.getD_some, Option.isSome_some] at hl
  have HR := Lib.hid (ready_load ⟨eb, 0, none⟩ w he)
  clear hm hf he
  go_enter Try.func37, Try.ntmps37
  go_wp2_with fail
  refine HR.out.mono ?_
  rintro e w' ⟨rfl, rfl⟩
  go_wp2_with fail
  go_ret2
  exact ⟨rfl, rfl⟩
set_option maxRecDepth 100000 in
set_option maxHeartbeats 1000000 in
theorem lookup_none (w : World) (tb i bm : Nat) (f : Int → Option Value) (k : Int) (c2 : w.cell? ⟨tb, i * 3 + 2, none⟩ = some (.map (some bm))) (hm : IMap w bm f) (hf : f k = none) :
    Calls Try.prog 37 #[.pointer (some ⟨tb, i * 3, none⟩), .int .i64 k] w fun e w' => e = .returned (.tuple #[.string ⟨#[]⟩, .bool false]) ∧ w' = w := by
  have hl := IMap.run_lookup2 Try.underlying84 Try.underlying3 hm _ (zeroEnt _) k
  rw [hf] at hl
  simp only [Option.getD_none, Option.isSome_none] at hl
  clear hm hf
  go_enter Try.func37, Try.ntmps37
  go_wp2_with fail
  go_ret2
  exact ⟨rfl, rfl⟩
set_option maxRecDepth 100000 in
set_option maxHeartbeats 1000000 in
theorem tpublish_old {w : World} {tb : Nat} {lab : TLab} {T : Int → Option ByteArray} (h : TabAt w tb lab T) (k : Int) (s s' : ByteArray) (hk : T k = some s') :
    Calls Try.prog 10 #[.pointer (some ⟨tb, 0, none⟩), .int .i64 k, .string s] w fun e w' => e = .returned (.bool false) ∧ TabAt w' tb lab T ∧ TExt w w' lab lab := by
  obtain ⟨bm, f, cs, h⟩ := h
  obtain ⟨i, hki⟩ : ∃ i : Nat, k % 8 = (i : Int) := ⟨(k % 8).toNat, by omega⟩
  have hi : i < 8 := by omega
  have hent := h.ents i hi k
  rw [if_pos hki, hk] at hent
  obtain ⟨v, hv⟩ : ∃ v, f i k = some v := by
    cases hq : f i k with
    | none => rw [hq] at hent; exact hent.elim
    | some v => exact ⟨v, rfl⟩
  rw [hv] at hent
  obtain ⟨eb, rfl, hbe, hle⟩ := hent
  have h0 := h.only (S := fun _ => False) (Only.refl w _).drew fun _ _ q => q
  have hle2 : eb ≠ tb := tlab_ne hle h.lself (by simp)
  have l0 : w.drew.cell? ⟨tb, i * 3, none⟩ = some (.int .i32 0) := blk_cell h0.self (h0.lock i hi)
  have HPL := Lib.hid (fun W => place_any W k i hki)
  have HH := Lib.hid (And.intro h0 (And.intro hv (And.intro hbe hle2)))
  have htb := blk_lt h.self
  have hL := Lib.hid (lock_free muLib ⟨tb, i * 3, none⟩ w.drew l0 (blk_frozen h0.self _))
  have hiI : (i : Int) < 8 := by omega
  have hiZ : (0 : Int) ≤ (i : Int) := by omega
  have hiD : decide ((i : Int) < 8) = true := by simp; omega
  clear hki hk hv hbe hle hle2 h h0 l0
  go_enter_defers Try.func10, Try.ntmps10
  go_wp2_with fail
  refine wp_region_still_lit (by kernel_rfl) (by kernel_rfl) ?_
  repeat still_step
  still_call (HPL.out _)
  repeat still_step
  refine wpStill_nil ?_
  go_wp2_with fail
  refine hL.out.mono ?_
  clear hL
  rintro e W1 ⟨rfl, hW1⟩
  have h1 := HH.out.1.locked hi 1
  rw [← hW1] at h1
  have he := blk_cell (i := 0) (blk_far (w := w.drew) HH.out.2.2.1 (a := ⟨tb, i * 3, none⟩) HH.out.2.2.2 (.int .i32 1)) rfl
  rw [← hW1] at he
  have ho : Only w W1 fun b => lab b ≠ none := by
    rw [hW1]
    exact ((Only.refl w (fun b => lab b ≠ none)).drew).setCell (p := ⟨tb, i * 3, none⟩) (.inl (by rw [HH.out.1.lself]; simp)) _
  have HP := Lib.hid (publish_old W1 tb i (bm i) eb (f i) k s (blk_cell h1.self (h1.mapc i hi)) (h1.maps i hi) HH.out.2.1 he)
  have H1 := Lib.hid (And.intro h1 ho)
  clear hW1 h1 he ho
  go_wp2_with fail
  refine HP.out.mono ?_
  clear HP
  rintro e w' ⟨rfl, rfl⟩
  go_wp2_with fail
  obtain ⟨h1, ho⟩ := H1.out
  refine leaves_cons (f := 36) (args := #[.pointer (some ⟨tb, i * 3, none⟩)]) (by simp) (by simp [go_sem]) ?_
  refine (unlock_deferred muLib ⟨tb, i * 3, none⟩ .returning _ ?_ (blk_frozen h1.self _)).mono ?_
  · have hc := h1.lock i hi
    rw [if_pos rfl] at hc
    exact blk_cell h1.self hc
  rintro e u' w'' ⟨rfl, rfl, rfl⟩
  refine ⟨_, results_tmp rfl _ _ _, rfl, ?_, ?_⟩
  · have h2 := h1.locked hi 0
    rw [show (fun j => if j = i then (0 : Int) else if j = i then 1 else 0) = fun _ => 0 by funext j; split <;> rfl] at h2
    exact ⟨_, _, _, h2⟩
  · exact TExt.same (ho.setCell (p := ⟨tb, i * 3, none⟩) (.inl (by rw [HH.out.1.lself]; simp)) _)
set_option maxRecDepth 100000 in
set_option maxHeartbeats 1000000 in
theorem tpublish_new {w : World} {tb : Nat} {lab : TLab} {T : Int → Option ByteArray} (h : TabAt w tb lab T) (k : Int) (s : ByteArray) (hk : T k = none) :
    Calls Try.prog 10 #[.pointer (some ⟨tb, 0, none⟩), .int .i64 k, .string s] w fun e w' => e = .returned (.bool true) ∧ ∃ lab', TabAt w' tb lab' (fun j => if j = k then some s else T j) ∧ TExt w w' lab lab' := by
  obtain ⟨bm, f, cs, h⟩ := h
  obtain ⟨i, hki⟩ : ∃ i : Nat, k % 8 = (i : Int) := ⟨(k % 8).toNat, by omega⟩
  have hi : i < 8 := by omega
  have hent := h.ents i hi k
  rw [if_pos hki, hk] at hent
  have hv : f i k = none := by
    cases hq : f i k with
    | none => rfl
    | some v => rw [hq] at hent; exact hent.elim
  have h0 := h.only (S := fun _ => False) (Only.refl w _).drew fun _ _ q => q
  have l0 : w.drew.cell? ⟨tb, i * 3, none⟩ = some (.int .i32 0) := blk_cell h0.self (h0.lock i hi)
  have HPL := Lib.hid (fun W => place_any W k i hki)
  have HH := Lib.hid (And.intro h0 (And.intro hv hki))
  have htb := blk_lt h.self
  have hL := Lib.hid (lock_free muLib ⟨tb, i * 3, none⟩ w.drew l0 (blk_frozen h0.self _))
  have hiI : (i : Int) < 8 := by omega
  have hiZ : (0 : Int) ≤ (i : Int) := by omega
  have hiD : decide ((i : Int) < 8) = true := by simp; omega
  clear hki hk hv hent h h0 l0
  go_enter_defers Try.func10, Try.ntmps10
  go_wp2_with fail
  refine wp_region_still_lit (by kernel_rfl) (by kernel_rfl) ?_
  repeat still_step
  still_call (HPL.out _)
  repeat still_step
  refine wpStill_nil ?_
  go_wp2_with fail
  refine hL.out.mono ?_
  clear hL
  rintro e W1 ⟨rfl, hW1⟩
  have h1 := HH.out.1.locked hi 1
  rw [← hW1] at h1
  have ho : Only w W1 fun b => lab b ≠ none := by
    rw [hW1]
    exact ((Only.refl w (fun b => lab b ≠ none)).drew).setCell (p := ⟨tb, i * 3, none⟩) (.inl (by rw [HH.out.1.lself]; simp)) _
  have HP := Lib.hid (publish_new W1 tb i (bm i) (f i) k s (blk_cell h1.self (h1.mapc i hi)) (h1.maps i hi) HH.out.2.1)
  have H1 := Lib.hid (And.intro h1 ho)
  clear hW1 h1 ho
  go_wp2_with fail
  refine HP.out.mono ?_
  clear HP
  rintro e w2 ⟨rfl, hp⟩
  have HPN := Lib.hid hp
  clear hp
  go_wp2_with fail
  obtain ⟨h1, ho⟩ := H1.out
  obtain ⟨eb, heb, hm2, ho2, hb2⟩ := HPN.out
  have h3 := h1.put hi HH.out.2.2 heb hm2 ho2 hb2
  have hob : Only w w2 fun b => lab b ≠ none := ho.trans ho2 fun b q => .inl (by rw [q, h1.lmap i hi]; simp)
  refine leaves_cons (f := 36) (args := #[.pointer (some ⟨tb, i * 3, none⟩)]) (by simp) (by simp [go_sem]) ?_
  refine (unlock_deferred muLib ⟨tb, i * 3, none⟩ .returning _ ?_ (blk_frozen h3.self _)).mono ?_
  · have hc := h3.lock i hi
    rw [if_pos rfl] at hc
    exact blk_cell h3.self hc
  rintro e u' w'' ⟨rfl, rfl, rfl⟩
  refine ⟨_, results_tmp rfl _ _ _, rfl, fun b => if b = eb then some (2, k) else lab b, ?_, ?_⟩
  · have h2 := h3.locked hi 0
    rw [show (fun j => if j = i then (0 : Int) else if j = i then 1 else 0) = fun _ => 0 by funext j; split <;> rfl] at h2
    exact ⟨_, _, _, h2⟩
  · refine ⟨hob.setCell (p := ⟨tb, i * 3, none⟩) (.inl (by rw [HH.out.1.lself]; simp)) _, fun b hb => ?_, fun b hb => ?_⟩
    · have := h1.old b hb
      show (if b = eb then some (2, k) else lab b) = lab b
      rw [if_neg (by omega)]
    · by_cases e : b = eb
      · subst e
        exact .inr (Nat.le_trans ho.size heb)
      · have hb2 : (if b = eb then some (2, k) else lab b) ≠ none := hb
        rw [if_neg e] at hb2
        exact .inl hb2
set_option maxRecDepth 100000 in
set_option maxHeartbeats 1000000 in
theorem tlookup_some {w : World} {tb : Nat} {lab : TLab} {T : Int → Option ByteArray} (h : TabAt w tb lab T) (k : Int) (s : ByteArray) (hk : T k = some s) :
    Calls Try.prog 8 #[.pointer (some ⟨tb, 0, none⟩), .int .i64 k] w fun e w' => e = .returned (.tuple #[.string s, .bool true]) ∧ TabAt w' tb lab T ∧ TExt w w' lab lab := by
  obtain ⟨bm, f, cs, h⟩ := h
  obtain ⟨i, hki⟩ : ∃ i : Nat, k % 8 = (i : Int) := ⟨(k % 8).toNat, by omega⟩
  have hi : i < 8 := by omega
  have hent := h.ents i hi k
  rw [if_pos hki, hk] at hent
  obtain ⟨v, hv⟩ : ∃ v, f i k = some v := by
    cases hq : f i k with
    | none => rw [hq] at hent; exact hent.elim
    | some v => exact ⟨v, rfl⟩
  rw [hv] at hent
  obtain ⟨eb, rfl, hbe, hle⟩ := hent
  have h0 := h.only (S := fun _ => False) (Only.refl w _).drew fun _ _ q => q
  have hle2 : eb ≠ tb := tlab_ne hle h.lself (by simp)
  have l0 : w.drew.cell? ⟨tb, i * 3, none⟩ = some (.int .i32 0) := blk_cell h0.self (h0.lock i hi)
  have HPL := Lib.hid (fun W => place_any W k i hki)
  have HH := Lib.hid (And.intro h0 (And.intro hv (And.intro hbe hle2)))
  have htb := blk_lt h.self
  have hL := Lib.hid (lock_free muLib ⟨tb, i * 3, none⟩ w.drew l0 (blk_frozen h0.self _))
  have hiI : (i : Int) < 8 := by omega
  have hiZ : (0 : Int) ≤ (i : Int) := by omega
  have hiD : decide ((i : Int) < 8) = true := by simp; omega
  clear hki hk hv hbe hle hle2 h h0 l0
  go_enter_defers Try.func8, Try.ntmps8
  go_wp2_with fail
  refine wp_region_still_lit (by kernel_rfl) (by kernel_rfl) ?_
  repeat still_step
  still_call (HPL.out _)
  repeat still_step
  refine wpStill_nil ?_
  go_wp2_with fail
  refine hL.out.mono ?_
  clear hL
  rintro e W1 ⟨rfl, hW1⟩
  have h1 := HH.out.1.locked hi 1
  rw [← hW1] at h1
  have he := blk_cell (i := 0) (blk_far (w := w.drew) HH.out.2.2.1 (a := ⟨tb, i * 3, none⟩) HH.out.2.2.2 (.int .i32 1)) rfl
  rw [← hW1] at he
  have he1 := blk_cell (i := 1) (blk_far (w := w.drew) HH.out.2.2.1 (a := ⟨tb, i * 3, none⟩) HH.out.2.2.2 (.int .i32 1)) rfl
  rw [← hW1] at he1
  have ho : Only w W1 fun b => lab b ≠ none := by
    rw [hW1]
    exact ((Only.refl w (fun b => lab b ≠ none)).drew).setCell (p := ⟨tb, i * 3, none⟩) (.inl (by rw [HH.out.1.lself]; simp)) _
  have HP := Lib.hid (lookup_some W1 tb i (bm i) eb (f i) k s (blk_cell h1.self (h1.mapc i hi)) (h1.maps i hi) HH.out.2.1 he he1)
  have H1 := Lib.hid (And.intro h1 ho)
  clear hW1 h1 he he1 ho
  go_wp2_with fail
  refine HP.out.mono ?_
  clear HP
  rintro e w' ⟨rfl, rfl⟩
  go_wp2_with fail
  obtain ⟨h1, ho⟩ := H1.out
  refine leaves_cons (f := 36) (args := #[.pointer (some ⟨tb, i * 3, none⟩)]) (by simp) (by simp [go_sem]) ?_
  refine (unlock_deferred muLib ⟨tb, i * 3, none⟩ .returning _ ?_ (blk_frozen h1.self _)).mono ?_
  · have hc := h1.lock i hi
    rw [if_pos rfl] at hc
    exact blk_cell h1.self hc
  rintro e u' w'' ⟨rfl, rfl, rfl⟩
  refine ⟨_, results_tmp2 rfl _ _ _, rfl, ?_, ?_⟩
  · have h2 := h1.locked hi 0
    rw [show (fun j => if j = i then (0 : Int) else if j = i then 1 else 0) = fun _ => 0 by funext j; split <;> rfl] at h2
    exact ⟨_, _, _, h2⟩
  · exact TExt.same (ho.setCell (p := ⟨tb, i * 3, none⟩) (.inl (by rw [HH.out.1.lself]; simp)) _)
set_option maxRecDepth 100000 in
set_option maxHeartbeats 1000000 in
theorem tlookup_none {w : World} {tb : Nat} {lab : TLab} {T : Int → Option ByteArray} (h : TabAt w tb lab T) (k : Int) (hk : T k = none) :
    Calls Try.prog 8 #[.pointer (some ⟨tb, 0, none⟩), .int .i64 k] w fun e w' => e = .returned (.tuple #[.string ⟨#[]⟩, .bool false]) ∧ TabAt w' tb lab T ∧ TExt w w' lab lab := by
  obtain ⟨bm, f, cs, h⟩ := h
  obtain ⟨i, hki⟩ : ∃ i : Nat, k % 8 = (i : Int) := ⟨(k % 8).toNat, by omega⟩
  have hi : i < 8 := by omega
  have hent := h.ents i hi k
  rw [if_pos hki, hk] at hent
  have hv : f i k = none := by
    cases hq : f i k with
    | none => rfl
    | some v => rw [hq] at hent; exact hent.elim
  have h0 := h.only (S := fun _ => False) (Only.refl w _).drew fun _ _ q => q
  have l0 : w.drew.cell? ⟨tb, i * 3, none⟩ = some (.int .i32 0) := blk_cell h0.self (h0.lock i hi)
  have HPL := Lib.hid (fun W => place_any W k i hki)
  have HH := Lib.hid (And.intro h0 hv)
  have htb := blk_lt h.self
  have hL := Lib.hid (lock_free muLib ⟨tb, i * 3, none⟩ w.drew l0 (blk_frozen h0.self _))
  have hiI : (i : Int) < 8 := by omega
  have hiZ : (0 : Int) ≤ (i : Int) := by omega
  have hiD : decide ((i : Int) < 8) = true := by simp; omega
  clear hki hk hv hent h h0 l0
  go_enter_defers Try.func8, Try.ntmps8
  go_wp2_with fail
  refine wp_region_still_lit (by kernel_rfl) (by kernel_rfl) ?_
  repeat still_step
  still_call (HPL.out _)
  repeat still_step
  refine wpStill_nil ?_
  go_wp2_with fail
  refine hL.out.mono ?_
  clear hL
  rintro e W1 ⟨rfl, hW1⟩
  have h1 := HH.out.1.locked hi 1
  rw [← hW1] at h1
  have ho : Only w W1 fun b => lab b ≠ none := by
    rw [hW1]
    exact ((Only.refl w (fun b => lab b ≠ none)).drew).setCell (p := ⟨tb, i * 3, none⟩) (.inl (by rw [HH.out.1.lself]; simp)) _
  have HP := Lib.hid (lookup_none W1 tb i (bm i) (f i) k (blk_cell h1.self (h1.mapc i hi)) (h1.maps i hi) HH.out.2)
  have H1 := Lib.hid (And.intro h1 ho)
  clear hW1 h1 ho
  go_wp2_with fail
  refine HP.out.mono ?_
  clear HP
  rintro e w' ⟨rfl, rfl⟩
  go_wp2_with fail
  obtain ⟨h1, ho⟩ := H1.out
  refine leaves_cons (f := 36) (args := #[.pointer (some ⟨tb, i * 3, none⟩)]) (by simp) (by simp [go_sem]) ?_
  refine (unlock_deferred muLib ⟨tb, i * 3, none⟩ .returning _ ?_ (blk_frozen h1.self _)).mono ?_
  · have hc := h1.lock i hi
    rw [if_pos rfl] at hc
    exact blk_cell h1.self hc
  rintro e u' w'' ⟨rfl, rfl, rfl⟩
  refine ⟨_, results_tmp2 rfl _ _ _, rfl, ?_, ?_⟩
  · have h2 := h1.locked hi 0
    rw [show (fun j => if j = i then (0 : Int) else if j = i then 1 else 0) = fun _ => 0 by funext j; split <;> rfl] at h2
    exact ⟨_, _, _, h2⟩
  · exact TExt.same (ho.setCell (p := ⟨tb, i * 3, none⟩) (.inl (by rw [HH.out.1.lself]; simp)) _)
end Go.Proofs.Ytihjpbalkjhjbaa
namespace Go.Proofs.Ytihjpbalkjhjbaa
open Go.RowKit Go.MapKept
open Go.ChangeMaps (setBlock)
theorem nodup_inj {α β : Type} {g : α → β} {l : List α} (h : (l.map g).Nodup) {a b : α} (ha : a ∈ l) (hb : b ∈ l) (e : g a = g b) : a = b := by
  induction l with
  | nil => cases ha
  | cons x l ih =>
    simp only [List.map_cons, List.nodup_cons] at h
    rcases List.mem_cons.1 ha with ea | ha'
    · rcases List.mem_cons.1 hb with eb | hb'
      · rw [ea, eb]
      · exact absurd (List.mem_map.2 ⟨b, hb', by rw [← e, ea]⟩) h.1
    · rcases List.mem_cons.1 hb with eb | hb'
      · exact absurd (List.mem_map.2 ⟨a, ha', by rw [e, eb]⟩) h.1
      · exact ih h.2 ha' hb'
/-- the iterator at block it ranges over the map at block bm (that answers f); done: the keys that have come; cnt: how many are to come -/
def Iter (w : World) (it bm : Nat) (f : Int → Option Value) (done : List Int) (cnt : Nat) : Prop :=
  ∃ es clock since seen c0, w.heap[bm]? = some (.map es clock) ∧ Stamped es clock ∧ (∀ x ∈ es.toList, IsKey (.int .i64) x.key) ∧ (∀ k, look es.toList k = f k) ∧
    w.heap[it]? = some (.mapIter (some bm) since seen c0) ∧ (∀ x ∈ es.toList, x.born < since) ∧ since ≤ c0 ∧ since ≤ clock ∧ (leftOf es seen).size = cnt ∧
    ∀ x ∈ es.toList, ∀ k, x.key = .int .i64 k → (seen.contains x.born = true ↔ k ∈ done)
section
variable {P : Program} {w : World} {it bm : Nat} {f : Int → Option Value} {done : List Int} {cnt : Nat}
theorem Iter.of_blocks {w1 : World} (h : Iter w it bm f done cnt) (h1 : w1.heap[bm]? = w.heap[bm]?) (h2 : w1.heap[it]? = w.heap[it]?) : Iter w1 it bm f done cnt := by
  obtain ⟨es, clock, since, seen, c0, a, b, c, d, e, g⟩ := h
  exact ⟨es, clock, since, seen, c0, h1.trans a, b, c, d, h2.trans e, g⟩
theorem IMap.run_range {t K E : TypeId} (ht : P.underlying t = some (.map K E)) (h : IMap w bm f) :
    (Instr.range t (.map (some bm))).run P w = .ok (.pointer (some ⟨w.heap.size, 0, none⟩)) (w.alloc (match w.heap[bm]? with | some (.map _ clock) => .mapIter (some bm) clock #[] clock | _ => .mapIter none 0 #[] 0)) ∧
    ∃ cnt, Iter (w.alloc (match w.heap[bm]? with | some (.map _ clock) => .mapIter (some bm) clock #[] clock | _ => .mapIter none 0 #[] 0)) w.heap.size bm f [] cnt := by
  have hlt := h.lt
  obtain ⟨es, clock, a, b, c, d⟩ := h
  rw [a]
  refine ⟨run_range_map w t K E bm es clock ht a, _, es, clock, clock, #[], clock, (Below.heap_alloc w _ bm hlt).trans a, b, c, d, heap_alloc_new w _, b.1, Nat.le_refl _, Nat.le_refl _, rfl, ?_⟩
  intro x hx k hk
  simp
theorem Iter.next (h : Iter w it bm f done cnt) (hne : it ≠ bm) (ty : TypeId) :
    ((∀ k, f k ≠ none → k ∈ done) ∧ (Instr.next (.pointer (some ⟨it, 0, none⟩)) false ty).run P w = .ok (.tuple #[.bool false]) w) ∨
    ∃ (k : Int) (v : Value) (w1 : World) (cnt1 : Nat), (Instr.next (.pointer (some ⟨it, 0, none⟩)) false ty).run P w = .ok (.tuple #[.bool true, .int .i64 k, v]) w1 ∧ f k = some v ∧ k ∉ done ∧
      Iter w1 it bm f (k :: done) cnt1 ∧ cnt1 < cnt ∧ Turned w w1 it ∧ (Instr.entry (.pointer (some ⟨it, 0, none⟩))).run P w1 = .ok (.tuple #[.int .i64 k, v]) w1 := by
  obtain ⟨es, clock, since, seen, c0, a, b, c, d, e, g, hsc, hs2, hcnt, hdone⟩ := h
  rcases run_next_at (P := P) w ty it bm since c0 seen es clock e a g hsc with ⟨h0, hrun⟩ | ⟨x, hx, w1, hal, hrun⟩
  · left
    refine ⟨fun k hk => ?_, hrun⟩
    cases hl : look es.toList k with
    | none => rw [d k] at hl; exact absurd hl hk
    | some v =>
      obtain ⟨y, hy, hyk, _⟩ := look_mem hl
      exact (hdone y hy k hyk).1 (all_seen es seen h0 y hy)
  · right
    obtain ⟨hxm, hxs⟩ := mem_left hx
    obtain ⟨k, hk⟩ := isKey_form (c x hxm)
    have hfk : f k = some x.val := by rw [← d k]; exact look_some b.2.2 hxm hk
    have hkd : k ∉ done := fun q => by
      have := (hdone x hxm k hk).2 q
      rw [hxs] at this
      cases this
    have hw1 : w1.heap = w.heap ∧ w1.os = w.os ∧ w1.tape = w.tape ∧ w1.output = w.output := by rcases hal with rfl | rfl <;> exact ⟨rfl, rfl, rfl, rfl⟩
    have hset : (setBlock w1 it (.mapIter (some bm) since (seen.push x.born) clock)).heap = w.heap.setIfInBounds it (.mapIter (some bm) since (seen.push x.born) clock) := by
      show w1.heap.setIfInBounds it _ = _
      rw [hw1.1]
    have hit : (setBlock w1 it (.mapIter (some bm) since (seen.push x.born) clock)).heap[it]? = some (.mapIter (some bm) since (seen.push x.born) clock) := by
      rw [hset]
      exact (heap_set e).1
    have hoth : ∀ j, j ≠ it → (setBlock w1 it (.mapIter (some bm) since (seen.push x.born) clock)).heap[j]? = w.heap[j]? := by
      intro j hj
      rw [hset]
      exact (heap_set e).2 j hj
    rw [hk] at hrun
    refine ⟨k, x.val, _, (leftOf es (seen.push x.born)).size, hrun, hfk, hkd, ⟨es, clock, since, seen.push x.born, clock, (hoth bm (fun q => hne q.symm)).trans a, b, c, d, hit, g, ?_, ?_, rfl, ?_⟩, by rw [← hcnt]; exact left_shrinks es seen x hx, ?_, ?_⟩
    · exact hs2
    · exact hs2
    · intro y hy k' hk'
      rw [Array.contains_iff_mem, Array.mem_push, List.mem_cons]
      constructor
      · rintro (q | q)
        · exact .inr ((hdone y hy k' hk').1 (Array.contains_iff_mem.2 q))
        · have := nodup_inj b.2.1 hy hxm q
          subst this
          rw [hk] at hk'
          injection hk' with _ hk'
          exact .inl hk'.symm
      · rintro (q | q)
        · subst q
          have := nodup_inj b.2.2 hy hxm (hk'.trans hk.symm)
          subst this
          exact .inr rfl
        · exact .inl (Array.contains_iff_mem.1 ((hdone y hy k' hk').2 q))
    · exact ⟨hw1.2.1, hw1.2.2.1, hw1.2.2.2, by rw [hset]; simp, hoth⟩
    · have := run_entry_at (P := P) (setBlock w1 it (.mapIter (some bm) since (seen.push x.born) clock)) it bm since seen es clock x hit ((hoth bm (fun q => hne q.symm)).trans a) hxm b.2.1
      rw [hk] at this
      exact this
theorem wpl_next {ops : Array Oper} {rest : List Oper} {o : Oper} {a : Act} {Q : Exit → Act → World → Prop} (hg : o.guard = none) (x : Operand) (hop : o.op = Op.next x false) (hx : a.eval x = .pointer (some ⟨it, 0, none⟩)) (h : Iter w it bm f done cnt) (hne : it ≠ bm)
    (hDone : (∀ k, f k ≠ none → k ∈ done) → wpList P ops Q rest (a.put o.dst (.tuple #[.bool false])) w)
    (hMore : ∀ (k : Int) (v : Value) (w1 : World) (cnt1 : Nat), f k = some v → k ∉ done → Iter w1 it bm f (k :: done) cnt1 → cnt1 < cnt → Turned w w1 it → (Instr.entry (.pointer (some ⟨it, 0, none⟩))).run P w1 = .ok (.tuple #[.int .i64 k, v]) w1 →
      wpList P ops Q rest (a.put o.dst (.tuple #[.bool true, .int .i64 k, v])) w1) : wpList P ops Q (o :: rest) a w := by
  refine wpList_plain hg fun K hK => ?_
  unfold Oper.wp
  rcases h.next (P := P) hne o.type with ⟨hd, hrun⟩ | ⟨k, v, w1, cnt1, hrun, h1, h2, h3, h4, h5, h6⟩
  · simp [execOp, hop, hx, hrun, Result.andThen]
    exact hK _ _ (hDone hd)
  · simp [execOp, hop, hx, hrun, Result.andThen]
    exact hK _ _ (hMore k v w1 cnt1 h1 h2 h3 h4 h5 h6)
end
theorem rnameW {C : Code} {Q : Exit → Act → World → Prop} {a : Act} {W : World} (h : ∀ V, V = W → Code.wp Try.prog C Q a V) : Code.wp Try.prog C Q a W := h W rfl
abbrev intsV (l : List Int) : List Value := l.map (Value.int .i64)
abbrev strsV (l : List ByteArray) : List Value := l.map Value.string
/-- block t is a table: keys K, values V, in rows of its own from base on -/
structure RTab (W : World) (t base : Nat) (K : List Int) (V : List ByteArray) (vk vv : Value) : Prop where
  blk : W.heap[t]? = some (.cells #[vk, vv] 61 (0, 0))
  keys : W.ownsRow base 3 1 vk K.length (intsV K)
  vals : W.ownsRow base 9 1 vv V.length (strsV V)
  out : t < base
  apart : ∀ g, vk.ownBlock = some g → vv.ownBlock ≠ some g
  len : K.length = V.length
  small : K.length ≤ 1099511627776
def Rising (K : List Int) : Prop := ∀ i j, i < j → j < K.length → K.getD i 0 < K.getD j 0
/-- where a key stands, or would stand -/
structure AtPlace (K : List Int) (key : Int) (lo : Nat) : Prop where
  le : lo ≤ K.length
  low : ∀ j, j < lo → K.getD j 0 < key
  high : ∀ j, lo ≤ j → j < K.length → key ≤ K.getD j 0
def foundB (K : List Int) (key : Int) (lo : Nat) : Bool := decide (lo < K.length) && decide (K.getD lo 0 = key)
theorem intsV_at {K : List Int} {i : Nat} (h : i < K.length) : (intsV K)[i]? = some (.int .i64 (K.getD i 0)) := by
  unfold intsV
  rw [List.getElem?_map, List.getD_eq_getElem?_getD, List.getElem?_eq_getElem h]
  rfl
theorem strsV_at {V : List ByteArray} {i : Nat} (h : i < V.length) : (strsV V)[i]? = some (.string (V.getD i ⟨#[]⟩)) := by
  unfold strsV
  rw [List.getElem?_map, List.getD_eq_getElem?_getD, List.getElem?_eq_getElem h]
  rfl
theorem own_at {w : World} {base : Nat} {e : TypeId} {n : Nat} {A : Option Addr} {c : Nat} {xs : List Value} (h : w.ownsRow base e 1 (.slice A n c) n xs) {i : Nat} {x : Value} (hx : xs[i]? = some x) : ∃ g, A = some ⟨g, 0, none⟩ ∧ w.cell? ⟨g, i, none⟩ = some x ∧ w.frozen? ⟨g, i, none⟩ = false ∧ g < w.heap.size := by
  obtain ⟨g, c', he, h1, h2, _⟩ := own_cell h hx
  injection he with h3 _ _
  exact ⟨g, h3, h1, h2, World.block_lt_of_cell? w _ h1⟩
set_option maxRecDepth 100000 in
set_option maxHeartbeats 1000000 in
theorem rat_calls {w : World} {t base : Nat} {K : List Int} {V : List ByteArray} {vk vv : Value} (h : RTab w t base K V vk vv) (hr : Rising K) (key : Int) :
    Calls Try.prog 64 #[.pointer (some ⟨t, 0, none⟩), .int .i64 key] w fun e w' => ∃ lo : Nat, AtPlace K key lo ∧ e = .returned (.tuple #[.int .i64 lo, .bool (foundB K key lo)]) ∧ ∃ n, w' = w.drewN n := by
  obtain ⟨A, c, rfl⟩ := own_slice h.keys
  have c0 := blk_cell h.blk (i := 0) rfl
  have hsm : K.length ≤ 1099511627776 := h.small
  have hn : K.length ≤ 9223372036854775806 := by omega
  have H := Lib.hid (And.intro h (And.intro hr hsm))
  clear h hr hsm
  have hu := Try.underlying61
  go_enter Try.func64, Try.ntmps64
  go_wp2_with fail
  go_loop [6, 7] (fun s6 s7 => ∃ lo hi : Nat, s6 = .int .i64 lo ∧ s7 = .int .i64 hi ∧ lo ≤ hi ∧ hi ≤ K.length ∧ (∀ j, j < lo → K.getD j 0 < key) ∧ (∀ j, hi ≤ j → j < K.length → key ≤ K.getD j 0)) (fun s6 s7 => (intOf s7).toNat - (intOf s6).toNat)
  case atStart => exact ⟨0, K.length, rfl, rfl, Nat.zero_le _, Nat.le_refl _, fun j q => by omega, fun j q1 q2 => by omega⟩
  case round =>
    obtain ⟨lo, hi, rfl, rfl, h1, h2, h3, h4⟩ := hrel
    have HL := Lib.hid (And.intro h3 h4)
    clear h3 h4
    by_cases hlt : lo < hi
    · have hlD : decide ((lo : Int) < (hi : Int)) = true := by simp; omega
      obtain ⟨m, hm⟩ : ∃ m : Nat, m = lo + (hi - lo) / 2 := ⟨_, rfl⟩
      have hm1 : lo ≤ m := by omega
      have hm2 : m < hi := by omega
      have hmid : (lo : Int) + ((hi : Int) - (lo : Int)) / 2 = (m : Int) := by omega
      obtain ⟨g, hA, x0, _, _⟩ := own_at H.out.1.keys (i := m) (x := .int .i64 (K.getD m 0)) (intsV_at (by omega))
      subst hA
      have hmD : decide ((m : Int) < (K.length : Int)) = true := by simp; omega
      obtain ⟨y, hy⟩ : ∃ y, y = K.getD m 0 := ⟨_, rfl⟩
      rw [← hy] at x0
      have HY := Lib.hid (And.intro hm hy)
      clear hm hy
      by_cases hk : y < key
      · have hkD : decide (y < key) = true := decide_eq_true hk
        have HK := Lib.hid hk
        clear hk
        go_wp2_with fail
        go_round
        case rel => exact ⟨m + 1, hi, by go_num, rfl, by omega, h2, fun j hj => by
          have hr := H.out.2.1
          rcases Nat.lt_or_ge j m with q | q
          · have := hr j m q (by omega); rw [← HY.out.2] at this; have := HK.out; omega
          · obtain rfl : j = m := by omega
            rw [← HY.out.2]; exact HK.out, HL.out.2⟩
        case measure => simp [intOf]; omega
      · have hkD : decide (y < key) = false := decide_eq_false hk
        have HK := Lib.hid hk
        clear hk
        go_wp2_with fail
        go_round
        case rel => exact ⟨lo, m, rfl, rfl, hm1, by omega, HL.out.1, fun j hj hjl => by
          have hr := H.out.2.1
          rcases Nat.eq_or_lt_of_le hj with q | q
          · subst q; rw [← HY.out.2]; have := HK.out; omega
          · have := hr m j q hjl; rw [← HY.out.2] at this; have := HK.out; omega⟩
        case measure => simp [intOf]; omega
    · obtain rfl : lo = hi := by omega
      have hlD : decide ((lo : Int) < (lo : Int)) = false := by simp
      have HA := Lib.hid (show AtPlace K key lo from ⟨h2, HL.out.1, HL.out.2⟩)
      by_cases hin : lo < K.length
      · have hiD : decide ((lo : Int) < (K.length : Int)) = true := by simp; omega
        obtain ⟨g, hA, x0, _, _⟩ := own_at H.out.1.keys (i := lo) (x := .int .i64 (K.getD lo 0)) (intsV_at hin)
        subst hA
        obtain ⟨y, hy⟩ : ∃ y, y = K.getD lo 0 := ⟨_, rfl⟩
        rw [← hy] at x0
        have HF : Hid (foundB K key lo = decide (y = key)) := Lib.hid (by unfold foundB; rw [decide_eq_true hin, ← hy]; rfl)
        clear hy
        by_cases hk : y = key
        · subst hk
          have HG : Hid (foundB K y lo = true) := Lib.hid (by rw [HF.out]; simp)
          clear HF
          go_wp2_with fail
          go_quiet (fail)
          go_wp2_with fail
          go_ret2
          exact ⟨lo, HA.out, by rw [HG.out]; rfl, _, rfl⟩
        · have e1 : (y == key) = false := beq_eq_false_iff_ne.mpr hk
          have HG : Hid (foundB K key lo = false) := Lib.hid (by rw [HF.out]; exact decide_eq_false hk)
          clear HF hk
          go_wp2_with fail
          go_quiet (fail)
          go_wp2_with fail
          go_ret2
          exact ⟨lo, HA.out, by rw [HG.out]; rfl, _, rfl⟩
      · have hiD : decide ((lo : Int) < (K.length : Int)) = false := by simp; omega
        have HG : Hid (foundB K key lo = false) := Lib.hid (by unfold foundB; rw [decide_eq_false hin]; rfl)
        go_wp2_with fail
        go_quiet (fail)
        go_wp2_with fail
        go_ret2
        exact ⟨lo, HA.out, by rw [HG.out]; rfl, _, rfl⟩
theorem rinfoInt : (Try.prog.info? 3).map (fun i => (i.zero, i.size, i.bytes)) = some (some (.int .i64 0), 1, 8) := by kernel_rfl
theorem rinfoStr : (Try.prog.info? 9).map (fun i => (i.zero, i.size, i.bytes)) = some (some (.string ⟨#[]⟩), 1, 16) := by kernel_rfl
/-- the blocks of a table -/
def TabS (t : Nat) (vk vv : Value) (b : Nat) : Prop := b = t ∨ vk.ownBlock = some b ∨ vv.ownBlock = some b
/-- the cells of a table, where the lists need not be of one length -/
structure RRaw (W : World) (t base : Nat) (K : List Int) (V : List ByteArray) (vk vv : Value) : Prop where
  blk : W.heap[t]? = some (.cells #[vk, vv] 61 (0, 0))
  keys : W.ownsRow base 3 1 vk K.length (intsV K)
  vals : W.ownsRow base 9 1 vv V.length (strsV V)
  out : t < base
  apart : ∀ g, vk.ownBlock = some g → vv.ownBlock ≠ some g
theorem RTab.raw {W : World} {t base : Nat} {K : List Int} {V : List ByteArray} {vk vv : Value} (h : RTab W t base K V vk vv) : RRaw W t base K V vk vv := ⟨h.blk, h.keys, h.vals, h.out, h.apart⟩
theorem row_move {W W1 : World} {base n : Nat} {e : TypeId} {v : Value} {xs : List Value} (h : W.ownsRow base e 1 v n xs) (hk : ∀ g, v.ownBlock = some g → W1.heap[g]? = W.heap[g]?) : W1.ownsRow base e 1 v n xs := by
  refine ⟨h.1, ?_⟩
  rcases h.2 with hh | ⟨g, cap, cur, rfl, h1, hgg, rest⟩
  · exact .inl hh
  · refine .inr ⟨g, cap, cur, rfl, h1, ?_, rest⟩
    rw [hk g rfl]
    exact hgg
theorem RRaw.growK {W W1 : World} {t base : Nat} {K : List Int} {V : List ByteArray} {vk vv : Value} (h : RRaw W t base K V vk vv) {k : Int} {o1 : Obj} {A1 : Option Addr} {C1 : Nat}
    (ho1 : W1.ownsRow base 3 1 (.slice A1 (K.length + 1) C1) (K.length + 1) (intsV K ++ [.int .i64 k])) (hg1 : (W.alloc o1).grownBy W1 vk.ownBlock) (ha1 : A1.map Addr.block = vk.ownBlock ∨ A1.map Addr.block = some (W.alloc o1).heap.size) :
    RRaw (W1.setCell ⟨t, 0, none⟩ (.slice A1 (K.length + 1) C1)) t base (K ++ [k]) V (.slice A1 (K.length + 1) C1) vv ∧ Only W (W1.setCell ⟨t, 0, none⟩ (.slice A1 (K.length + 1) C1)) (TabS t vk vv) := by
  have hkt : some t ≠ vk.ownBlock := fun e => by have := (h.keys.lt t e.symm).1; have := h.out; omega
  have hvt : some t ≠ vv.ownBlock := fun e => by have := (h.vals.lt t e.symm).1; have := h.out; omega
  have hst : ∀ b, b < W.heap.size → some b ≠ vk.ownBlock → W1.heap[b]? = W.heap[b]? := fun b hb hn => (hg1.block b (by simp; omega) hn).trans (Below.heap_alloc W o1 b hb)
  have hset : ∀ b, b ≠ t → (W1.setCell ⟨t, 0, none⟩ (.slice A1 (K.length + 1) C1)).heap[b]? = W1.heap[b]? := fun b hb => Below.heap_setCell W1 ⟨t, 0, none⟩ _ b hb
  have hA : ∀ g, A1.map Addr.block = some g → (vk.ownBlock = some g) ∨ W.heap.size < g := fun g e => by
    rcases ha1 with q | q
    · rw [q] at e; exact .inl e
    · rw [q] at e; cases e; exact .inr (by simp)
  have htw := blk_lt h.blk
  refine ⟨⟨?_, ?_, ?_, h.out, fun g e q => ?_⟩, ?_⟩
  · have := blk_set ((hst t htw hkt).trans h.blk) 0 (.slice A1 (K.length + 1) C1)
    rw [this]
    rfl
  · rw [List.length_append, List.length_singleton]
    refine own_far (by simpa [intsV] using ho1) (fun e => ?_) _
    rw [own_map] at e
    rcases hA _ e with q | q
    · exact hkt q.symm
    · simp at q; omega
  · refine row_move h.vals fun g e => ?_
    have hgl := own_lt h.vals e
    have hgt : g ≠ t := fun q => hvt (by rw [e, q])
    exact (hset g hgt).trans (hst g hgl fun q => h.apart g q.symm e)
  · rw [own_map] at e
    rcases hA g e with q1 | q1
    · exact h.apart g q1 q
    · have := own_lt h.vals q; omega
  · refine ⟨hg1.os, hg1.tape, hg1.output, ?_, fun b hb hn => ?_⟩
    · have := hg1.size; simp at this; simp [World.setCell]; omega
    · unfold TabS at hn
      exact (hset b fun q => hn (.inl q)).trans (hst b hb fun q => hn (.inr (.inl q.symm)))
theorem RRaw.growV {W W1 : World} {t base : Nat} {K : List Int} {V : List ByteArray} {vk vv : Value} (h : RRaw W t base K V vk vv) {k : ByteArray} {o1 : Obj} {A1 : Option Addr} {C1 : Nat}
    (ho1 : W1.ownsRow base 9 1 (.slice A1 (V.length + 1) C1) (V.length + 1) (strsV V ++ [.string k])) (hg1 : (W.alloc o1).grownBy W1 vv.ownBlock) (ha1 : A1.map Addr.block = vv.ownBlock ∨ A1.map Addr.block = some (W.alloc o1).heap.size) :
    RRaw (W1.setCell ⟨t, 1, none⟩ (.slice A1 (V.length + 1) C1)) t base K (V ++ [k]) vk (.slice A1 (V.length + 1) C1) ∧ Only W (W1.setCell ⟨t, 1, none⟩ (.slice A1 (V.length + 1) C1)) (TabS t vk vv) := by
  have hkt : some t ≠ vk.ownBlock := fun e => by have := (h.keys.lt t e.symm).1; have := h.out; omega
  have hvt : some t ≠ vv.ownBlock := fun e => by have := (h.vals.lt t e.symm).1; have := h.out; omega
  have hst : ∀ b, b < W.heap.size → some b ≠ vv.ownBlock → W1.heap[b]? = W.heap[b]? := fun b hb hn => (hg1.block b (by simp; omega) hn).trans (Below.heap_alloc W o1 b hb)
  have hset : ∀ b, b ≠ t → (W1.setCell ⟨t, 1, none⟩ (.slice A1 (V.length + 1) C1)).heap[b]? = W1.heap[b]? := fun b hb => Below.heap_setCell W1 ⟨t, 1, none⟩ _ b hb
  have hA : ∀ g, A1.map Addr.block = some g → (vv.ownBlock = some g) ∨ W.heap.size < g := fun g e => by
    rcases ha1 with q | q
    · rw [q] at e; exact .inl e
    · rw [q] at e; cases e; exact .inr (by simp)
  have htw := blk_lt h.blk
  refine ⟨⟨?_, ?_, ?_, h.out, fun g e q => ?_⟩, ?_⟩
  · have := blk_set ((hst t htw hvt).trans h.blk) 1 (.slice A1 (V.length + 1) C1)
    rw [this]
    rfl
  · refine row_move h.keys fun g e => ?_
    have hgl := own_lt h.keys e
    have hgt : g ≠ t := fun q => hkt (by rw [e, q])
    exact (hset g hgt).trans (hst g hgl fun q => h.apart g e q.symm)
  · rw [List.length_append, List.length_singleton]
    refine own_far (by simpa [strsV] using ho1) (fun e => ?_) _
    rw [own_map] at e
    rcases hA _ e with q | q
    · exact hvt q.symm
    · simp at q; omega
  · rw [own_map] at q
    rcases hA g q with q1 | q1
    · exact h.apart g e q1
    · have := own_lt h.keys e; omega
  · refine ⟨hg1.os, hg1.tape, hg1.output, ?_, fun b hb hn => ?_⟩
    · have := hg1.size; simp at this; simp [World.setCell]; omega
    · unfold TabS at hn
      exact (hset b fun q => hn (.inl q)).trans (hst b hb fun q => hn (.inr (.inr q.symm)))
theorem RRaw.setK {W : World} {t base g c n : Nat} {K : List Int} {V : List ByteArray} {vv : Value} (h : RRaw W t base K V (.slice (some ⟨g, 0, none⟩) n c) vv) (i : Nat) (x : Int) :
    RRaw (W.setCell ⟨g, i, none⟩ (.int .i64 x)) t base (K.set i x) V (.slice (some ⟨g, 0, none⟩) n c) vv ∧ Only W (W.setCell ⟨g, i, none⟩ (.int .i64 x)) (TabS t (.slice (some ⟨g, 0, none⟩) n c) vv) := by
  have hg := (h.keys.lt g rfl).1
  have hset : ∀ b, b ≠ g → (W.setCell ⟨g, i, none⟩ (.int .i64 x)).heap[b]? = W.heap[b]? := fun b hb => Below.heap_setCell W ⟨g, i, none⟩ _ b hb
  have hn : n = K.length := by
    obtain ⟨A, c', e⟩ := own_slice h.keys
    injection e
  refine ⟨⟨(hset t (by have := h.out; omega)).trans h.blk, ?_, row_move h.vals fun b e => hset b fun q => h.apart g rfl (q ▸ e), h.out, h.apart⟩, (Only.refl _ _).setCell (p := ⟨g, i, none⟩) (.inl (.inr (.inl rfl))) _⟩
  rw [List.length_set]
  subst hn
  have := own_set h.keys i (.int .i64 x)
  rwa [show (intsV K).set i (.int .i64 x) = intsV (K.set i x) by simp [intsV, List.map_set]] at this
theorem RRaw.setV {W : World} {t base g c n : Nat} {K : List Int} {V : List ByteArray} {vk : Value} (h : RRaw W t base K V vk (.slice (some ⟨g, 0, none⟩) n c)) (i : Nat) (x : ByteArray) :
    RRaw (W.setCell ⟨g, i, none⟩ (.string x)) t base K (V.set i x) vk (.slice (some ⟨g, 0, none⟩) n c) ∧ Only W (W.setCell ⟨g, i, none⟩ (.string x)) (TabS t vk (.slice (some ⟨g, 0, none⟩) n c)) := by
  have hg := (h.vals.lt g rfl).1
  have hset : ∀ b, b ≠ g → (W.setCell ⟨g, i, none⟩ (.string x)).heap[b]? = W.heap[b]? := fun b hb => Below.heap_setCell W ⟨g, i, none⟩ _ b hb
  have hn : n = V.length := by
    obtain ⟨A, c', e⟩ := own_slice h.vals
    injection e
  refine ⟨⟨(hset t (by have := h.out; omega)).trans h.blk, row_move h.keys fun b e => hset b fun q => h.apart b e (by rw [q]; rfl), ?_, h.out, h.apart⟩, (Only.refl _ _).setCell (p := ⟨g, i, none⟩) (.inl (.inr (.inr rfl))) _⟩
  rw [List.length_set]
  subst hn
  have := own_set h.vals i (.string x)
  rwa [show (strsV V).set i (.string x) = strsV (V.set i x) by simp [strsV, List.map_set]] at this
/-- a list with a hole at k -/
def holed {α : Type} (l : List α) (k : Nat) (y : α) : List α := l.take k ++ y :: l.drop k
theorem holed_len {α : Type} {l : List α} {k : Nat} (h : k ≤ l.length) (y : α) : (holed l k y).length = l.length + 1 := by unfold holed; simp; omega
theorem holed_end {α : Type} (l : List α) (y : α) : l ++ [y] = holed l l.length y := by simp [holed]
theorem holed_set {α : Type} {l : List α} {k : Nat} (h : k ≤ l.length) (y z : α) : (holed l k y).set k z = holed l k z := by
  unfold holed
  rw [List.set_append_right _ _ (by simp; omega)]
  simp [Nat.min_eq_left h]
theorem holed_at {α : Type} {l : List α} {k : Nat} (h : k + 1 ≤ l.length) (y d : α) : (holed l (k + 1) y).getD k d = l.getD k d := by
  unfold holed
  simp only [List.getD_eq_getElem?_getD]
  rw [List.getElem?_append_left (by simp; omega), List.getElem?_take, if_pos (by omega)]
theorem holed_down {α : Type} {l : List α} {k : Nat} (h : k + 1 ≤ l.length) (d : α) : holed l (k + 1) (l.getD k d) = holed l k (l.getD k d) := by
  unfold holed
  rw [List.take_add_one, List.getD_eq_getElem?_getD, List.getElem?_eq_getElem (show k < l.length by omega)]
  simp only [Option.toList_some, Option.getD_some, List.append_assoc, List.cons_append, List.nil_append]
  rw [List.drop_eq_getElem_cons (show k < l.length by omega)]
set_option maxRecDepth 100000 in
set_option maxHeartbeats 2000000 in
theorem rpub_new {w : World} {t base : Nat} {K : List Int} {V : List ByteArray} {vk vv : Value} (h : RTab w t base K V vk vv) (hr : Rising K) (hsm : K.length < 1099511627776) (hbs : base ≤ w.heap.size) (key : Int) (val : ByteArray) (hno : ∀ lo, AtPlace K key lo → foundB K key lo = false) :
    Calls Try.prog 52 #[.pointer (some ⟨t, 0, none⟩), .int .i64 key, .string val] w fun e w' => ∃ lo vk' vv', AtPlace K key lo ∧ e = .returned (.bool true) ∧ RRaw w' t base (holed K lo key) (holed V lo val) vk' vv' ∧ Only w w' (TabS t vk vv) ∧ ∀ b, TabS t vk' vv' b → TabS t vk vv b ∨ w.heap.size ≤ b := by
  obtain ⟨A, c, rfl⟩ := own_slice h.keys
  obtain ⟨B, d, rfl⟩ := own_slice h.vals
  have hat := rat_calls h hr key
  have hlen := h.len
  have H := Lib.hid (And.intro h (And.intro hr (And.intro hno (And.intro hbs (And.intro hlen hsm)))))
  have hn : K.length ≤ 9223372036854775805 := by omega
  clear h hr hno hlen hsm
  have hu := Try.underlying61
  go_enter Try.func52, Try.ntmps52
  go_wp2_with fail
  refine hat.mono ?_
  rintro e w1 ⟨lo, hlo, rfl, n, rfl⟩
  rw [H.out.2.2.1 lo hlo]
  have HLO := Lib.hid hlo
  clear hat hlo
  obtain ⟨i0, hi0, hz0, hz1, hz2⟩ := info_parts rinfoInt
  obtain ⟨j0, hj0, hy0, hy1, hy2⟩ := info_parts rinfoStr
  have HI := Lib.hid (And.intro hi0 (And.intro hz0 (And.intro hz1 (And.intro hz2 (And.intro hj0 (And.intro hy0 (And.intro hy1 hy2)))))))
  clear hi0 hz0 hz1 hz2 hj0 hy0 hy1 hy2
  go_upto_region 4 with (fail)
  refine rnameW ?_
  intro V1 hV1
  have hraw : RRaw V1 t base K V (.slice A K.length c) (.slice B V.length d) := by rw [hV1]; exact ⟨H.out.1.blk, H.out.1.keys, H.out.1.vals, H.out.1.out, H.out.1.apart⟩
  have hsz : w.heap.size = V1.heap.size := by rw [hV1]; rfl
  have ho1 : Only w V1 (TabS t (.slice A K.length c) (.slice B V.length d)) := by rw [hV1]; exact (Only.refl _ _).drewN _
  have c0 := blk_cell hraw.blk (i := 0) rfl
  have lt := blk_lt hraw.blk
  have HV := Lib.hid (And.intro hraw (And.intro hsz ho1))
  clear hV1 hraw hsz ho1
  go_upto_region 5 with (at_builtin; go_must (refine wpl_app _ rfl (.tmp 21) (.tmp 22) 27 rfl base 3 i0 (.int .i64 0) 1 8 Try.underlying27 HI.out.1 HI.out.2.1 HI.out.2.2.1 HI.out.2.2.2.1 rfl (by decide) (.slice A K.length c) K.length (intsV K) rfl (HV.out.1.keys.alloc _) V1.heap.size 1 1 [.int .i64 0] 3 (0, 0) rfl (new_blk _) rfl (by simp [Value.oneCell']) (by unfold maxLen; omega) (by have := H.out.2.2.2.2.2; omega) (by have := HV.out.2.1; simp; omega) ?_); intro A1 C1 w9 ho9 hg9 hat9; have q1 := blk_grown (blk_alloc HV.out.1.blk _) hg9 (fun e => by have := (HV.out.1.keys.lt t e.symm).1; have := HV.out.1.out; omega); have q2 := blk_cell q1 (i := 0) rfl; have q3 := blk_frozen q1; have HA1 : Hid (∀ b, (Value.slice A1 (K.length + 1) C1).ownBlock = some b → (Value.slice A K.length c).ownBlock = some b ∨ V1.heap.size ≤ b) := Lib.hid (fun b q => by rw [own_map] at q; rcases hat9 with k | k; exact .inl (k ▸ q); exact .inr (by rw [q] at k; cases k; simp)); have H9 := Lib.hid (HV.out.1.growK ho9 hg9 hat9); clear ho9 hg9 hat9 q1)
  refine rnameW ?_
  intro V2 hV2
  have hraw : RRaw V2 t base (K ++ [0]) V (.slice A1 (K.length + 1) C1) (.slice B V.length d) := by rw [hV2]; exact H9.out.1
  have ho2 : Only V1 V2 (TabS t (.slice A K.length c) (.slice B V.length d)) := by rw [hV2]; exact H9.out.2
  have c0 := blk_cell hraw.blk (i := 1) rfl
  have lt := blk_lt hraw.blk
  have HV2 := Lib.hid (And.intro hraw ho2)
  clear hV2 hraw ho2 q2 q3
  go_upto_region 6 with (at_builtin; go_must (refine wpl_app _ rfl (.tmp 30) (.tmp 31) 28 rfl base 9 j0 (.string ⟨#[]⟩) 1 16 Try.underlying28 HI.out.2.2.2.2.1 HI.out.2.2.2.2.2.1 HI.out.2.2.2.2.2.2.1 HI.out.2.2.2.2.2.2.2 rfl (by decide) (.slice B V.length d) V.length (strsV V) rfl (HV2.out.1.vals.alloc _) V2.heap.size 1 1 [.string ⟨#[]⟩] 9 (0, 0) rfl (new_blk _) rfl (by simp [Value.oneCell']) (by have := H.out.2.2.2.2.1; unfold maxLen; omega) (by have := H.out.2.2.2.2.1; have := H.out.2.2.2.2.2; omega) (by have := HV.out.2.1; have := HV2.out.2.size; simp; omega) ?_); intro A2 C2 w9 ho9 hg9 hat9; have q1 := blk_grown (blk_alloc HV2.out.1.blk _) hg9 (fun e => by have := (HV2.out.1.vals.lt t e.symm).1; have := HV2.out.1.out; omega); have q2 := blk_cell q1 (i := 1) rfl; have q3 := blk_frozen q1; have HA2 : Hid (∀ b, (Value.slice A2 (V.length + 1) C2).ownBlock = some b → (Value.slice B V.length d).ownBlock = some b ∨ V2.heap.size ≤ b) := Lib.hid (fun b q => by rw [own_map] at q; rcases hat9 with k | k; exact .inl (k ▸ q); exact .inr (by rw [q] at k; cases k; simp)); have H10 := Lib.hid (HV2.out.1.growV ho9 hg9 hat9); clear ho9 hg9 hat9 q1)
  refine rnameW ?_
  intro V3 hV3
  have hraw : RRaw V3 t base (holed K K.length 0) (holed V K.length ⟨#[]⟩) (.slice A1 (K.length + 1) C1) (.slice A2 (K.length + 1) C2) := by
    rw [hV3, ← holed_end]
    have := H10.out.1
    rw [← H.out.2.2.2.2.1] at this ⊢
    rw [show holed V K.length (⟨#[]⟩ : ByteArray) = V ++ [⟨#[]⟩] by rw [H.out.2.2.2.2.1]; exact (holed_end _ _).symm]
    exact this
  have ho3 : Only w V3 (TabS t (.slice A K.length c) (.slice B V.length d)) := by
    rw [hV3]
    exact (HV.out.2.2.trans' HV2.out.2).trans H10.out.2 fun b q => by
      rcases q with q | q | q
      · exact .inl (.inl q)
      · rcases HA1.out b q with k | k
        · exact .inl (.inr (.inl k))
        · exact .inr (by have := HV.out.2.1; omega)
      · exact .inl (.inr (.inr q))
  have c0 := blk_cell hraw.blk (i := 0) rfl
  have lt := blk_lt hraw.blk
  have HV3 := Lib.hid (And.intro hraw ho3)
  clear hV3 hraw ho3 q2 q3
  have hll := H.out.2.2.2.2.1
  have HLL := Lib.hid hll
  have hlk : lo ≤ K.length := HLO.out.le
  clear hll
  go_wp2_with fail
  clear c0 lt
  go_loopw [9] (fun s9 wr => ∃ (k : Nat) (y : Int) (z : ByteArray), lo ≤ k ∧ k ≤ K.length ∧ s9 = .int .i64 k ∧ RRaw wr t base (holed K k y) (holed V k z) (.slice A1 (K.length + 1) C1) (.slice A2 (K.length + 1) C2) ∧ Only w wr (TabS t (.slice A K.length c) (.slice B V.length d))) (fun s9 _ => (intOf s9).toNat)
  case atStart => exact ⟨K.length, 0, ⟨#[]⟩, hlk, Nat.le_refl _, rfl, HV3.out.1, HV3.out.2⟩
  case round =>
    obtain ⟨k, y, z, hk1, hk2, rfl, hR, hO⟩ := hrel
    have HR := Lib.hid (And.intro hR hO)
    clear hR hO
    have c0 := blk_cell HR.out.1.blk (i := 0) rfl
    have c1 := blk_cell HR.out.1.blk (i := 1) rfl
    have hKl : (holed K k y).length = K.length + 1 := holed_len hk2 y
    have hVl : (holed V k z).length = K.length + 1 := by rw [holed_len (by rw [← HLL.out]; exact hk2), ← HLL.out]
    have hkeys := HR.out.1.keys
    have hvals := HR.out.1.vals
    rw [hKl] at hkeys
    rw [hVl] at hvals
    obtain ⟨g1, e1, x1, f1, l1⟩ := own_at hkeys (i := k) (intsV_at (by omega))
    obtain ⟨g2, e2, x2, f2, l2⟩ := own_at hvals (i := k) (strsV_at (by omega))
    subst e1
    subst e2
    have hkD : decide ((k : Int) < (K.length : Int) + 1) = true := by simp; omega
    have hkN : decide (k < K.length + 1) = true := by simp; omega
    have hb1 := (hkeys.lt g1 rfl).1
    have hb2 := (hvals.lt g2 rfl).1
    have hbt := HR.out.1.out
    have n1 : t ≠ g1 := by omega
    have n2 : g1 ≠ t := by omega
    have n3 : t ≠ g2 := by omega
    have n4 : g2 ≠ t := by omega
    have n5 : g1 ≠ g2 := fun e => HR.out.1.apart g1 rfl (by rw [e]; rfl)
    have n6 : g2 ≠ g1 := fun e => n5 e.symm
    by_cases hlt : lo < k
    · have hlD : decide ((lo : Int) < (k : Int)) = true := by simp; omega
      obtain ⟨m, rfl⟩ : ∃ m, k = m + 1 := ⟨k - 1, by omega⟩
      obtain ⟨g1', e1, x3, f3, _⟩ := own_at hkeys (i := m) (intsV_at (by omega))
      obtain ⟨g2', e2, x4, f4, _⟩ := own_at hvals (i := m) (strsV_at (by omega))
      cases e1
      cases e2
      rw [holed_at hk2] at x3
      rw [holed_at (by rw [← HLL.out]; exact hk2)] at x4
      have hmD : decide ((m : Int) < (K.length : Int) + 1) = true := by simp; omega
      have HS := Lib.hid (And.intro hKl (And.intro hVl (And.intro hkeys hvals)))
      clear hKl hVl hkeys hvals
      obtain ⟨u, hu⟩ : ∃ u, u = K.getD m 0 := ⟨_, rfl⟩
      obtain ⟨v, hv⟩ : ∃ v, v = V.getD m ⟨#[]⟩ := ⟨_, rfl⟩
      rw [← hu] at x3
      rw [← hv] at x4
      have HU := Lib.hid (And.intro hu hv)
      clear hu hv
      have hmN : decide (m < K.length + 1) = true := by simp; omega
      have hi0 : (0 : Int) ≤ (m : Int) := by omega
      have hi1 : (m : Int) < (K.length : Int) + 1 := by omega
      have hi2 : (0 : Int) ≤ (m : Int) + 1 := by omega
      have hi3 : (m : Int) + 1 < (K.length : Int) + 1 := by omega
      have hsub : IntKind.i64.wrap (m : Int) = (m : Int) := IntWalk.i64_in _ (by omega)
      have hto : ((m : Int) + 1).toNat = m + 1 := by omega
      go_wp2_with fail
      refine wp_region_still_tail 14 (by kernel_rfl) (by kernel_rfl) ?_
      simp only [List.take_succ_cons, List.take_zero, List.drop_succ_cons, List.drop_zero]
      repeat still_step
      refine wpStill_nil ?_
      go_wp2_with fail
      refine rnameW ?_
      intro V4 hV4
      have h4 := HR.out.1.setK (m + 1) u
      rw [holed_set hk2] at h4
      have hr4 : RRaw V4 t base (holed K (m + 1) u) (holed V (m + 1) z) (.slice (some ⟨g1, 0, none⟩) (K.length + 1) C1) (.slice (some ⟨g2, 0, none⟩) (K.length + 1) C2) := by rw [hV4]; exact ⟨h4.1.blk, h4.1.keys, h4.1.vals, h4.1.out, h4.1.apart⟩
      have ho4 : Only w V4 (TabS t (.slice A K.length c) (.slice B V.length d)) := by rw [hV4]; exact (HR.out.2.setCell (p := ⟨g1, m + 1, none⟩) (by rcases HA1.out g1 rfl with q | q; exact .inl (.inr (.inl q)); exact .inr (by have := HV.out.2.1; simp; omega)) _).drew
      have hmv : ∀ (b i : Nat), b ≠ g1 → V4.cell? ⟨b, i, none⟩ = wr.cell? ⟨b, i, none⟩ := fun b i hb => by rw [hV4]; exact World.cell?_of_block (w := wr) (Below.heap_setCell wr ⟨g1, m + 1, none⟩ _ b hb)
      have hmf : ∀ (b i : Nat), b ≠ g1 → V4.frozen? ⟨b, i, none⟩ = wr.frozen? ⟨b, i, none⟩ := fun b i hb => by rw [hV4]; exact World.frozen?_of_block (w := wr) (Below.heap_setCell wr ⟨g1, m + 1, none⟩ _ b hb)
      replace c1 := (hmv t 1 n1).trans c1
      replace x2 := (hmv g2 (m + 1) n6).trans x2
      replace x4 := (hmv g2 m n6).trans x4
      replace f2 := (hmf g2 (m + 1) n6).trans f2
      have H4 := Lib.hid (And.intro hr4 ho4)
      clear hV4 h4 hr4 ho4 hmv hmf c0 x1 x3 f1 f3
      refine wp_region_still_tail 14 (by kernel_rfl) (by kernel_rfl) ?_
      simp only [List.take_succ_cons, List.take_zero, List.drop_succ_cons, List.drop_zero]
      repeat still_step
      refine wpStill_nil ?_
      go_wp2_with fail
      go_roundw
      case rel =>
        have h5 := H4.out.1.setV (m + 1) v
        rw [holed_set (by rw [← HLL.out]; exact hk2)] at h5
        have h6 := h5.1
        rw [show holed K (m + 1) u = holed K m u by rw [HU.out.1]; exact holed_down hk2 _, show holed V (m + 1) v = holed V m v by rw [HU.out.2]; exact holed_down (by rw [← HLL.out]; exact hk2) _] at h6
        refine ⟨m, _, _, by omega, by omega, by go_num, ⟨h6.blk, h6.keys, h6.vals, h6.out, h6.apart⟩, ?_⟩
        exact (H4.out.2.setCell (p := ⟨g2, m + 1, none⟩) (by rcases HA2.out g2 (by rfl) with q | q; exact .inl (.inr (.inr q)); exact .inr (by have := HV.out.2.1; have := HV2.out.2.size; simp; omega)) _).drew
      case measure => simp [intOf]
    · obtain rfl : k = lo := by omega
      have hlD : decide ((k : Int) < (k : Int)) = false := by simp
      clear hKl hVl hkeys hvals
      go_wp2_with fail
      go_ret
      have h1 := HR.out.1.setK k key
      have h2 := h1.1.setV k val
      rw [holed_set hk2] at h2
      rw [holed_set (by rw [← HLL.out]; exact hk2)] at h2
      refine ⟨k, _, _, HLO.out, rfl, h2.1, ?_, fun b q => ?_⟩
      · exact (HR.out.2.setCell (p := ⟨g1, k, none⟩) (by rcases HA1.out g1 rfl with q | q; exact .inl (.inr (.inl q)); exact .inr (by have := HV.out.2.1; simp; omega)) _).setCell (p := ⟨g2, k, none⟩) (by rcases HA2.out g2 (by rfl) with q | q; exact .inl (.inr (.inr q)); exact .inr (by have := HV.out.2.1; have := HV2.out.2.size; simp; omega)) _
      · rcases q with q | q | q
        · exact .inl (.inl q)
        · rcases HA1.out b q with e | e
          · exact .inl (.inr (.inl e))
          · exact .inr (by have := HV.out.2.1; omega)
        · rcases HA2.out b q with e | e
          · exact .inl (.inr (.inr e))
          · exact .inr (by have := HV.out.2.1; have := HV2.out.2.size; omega)
end Go.Proofs.Ytihjpbalkjhjbaa
namespace Go.Proofs
open Go.Shelf
def Try.sortA_ren : Go.Shelf.Ren := ⟨fun | 5 => 59 | 8 => 76 | 7 => 75 | 19 => 96 | 20 => 97 | 10 => 87 | 11 => 88 | 12 => 89 | 13 => 90 | 14 => 91 | 15 => 92 | 16 => 93 | 17 => 94 | 18 => 95 | 30 => 98 | 31 => 99 | 32 => 100 | 33 => 101 | 34 => 102 | 35 => 103 | 40 => 104 | n => n, fun | 23 => 27 | 25 => 3 | 3 => 3 | 32 => 133 | 22 => 27 | 0 => 0 | 44 => 79 | 46 => 166 | 4 => 4 | 36 => 158 | 35 => 157 | 41 => 135 | 5 => 5 | 9 => 9 | 53 => 167 | 57 => 171 | 63 => 173 | 64 => 174 | n => n, fun | n => n⟩
theorem Try.sortA : Go.Proofs.SlLaysM.n5 Try.prog Try.sortA_ren := {
  mixed := by kernel_rfl
  f5 := ⟨Try.f59.name, by decide, Try.func59.trans (congrArg some (by kernel_rfl))⟩
  f7 := ⟨Try.f75.name, by decide, Try.func75.trans (congrArg some (by kernel_rfl))⟩
  f8 := Try.func76.trans (congrArg some (by kernel_rfl))
  f10 := ⟨Try.f87.name, by decide, Try.func87.trans (congrArg some (by kernel_rfl))⟩
  f11 := ⟨Try.f88.name, by decide, Try.func88.trans (congrArg some (by kernel_rfl))⟩
  f12 := ⟨Try.f89.name, by decide, Try.func89.trans (congrArg some (by kernel_rfl))⟩
  f13 := ⟨Try.f90.name, by decide, Try.func90.trans (congrArg some (by kernel_rfl))⟩
  f14 := ⟨Try.f91.name, by decide, Try.func91.trans (congrArg some (by kernel_rfl))⟩
  f15 := ⟨Try.f92.name, by decide, Try.func92.trans (congrArg some (by kernel_rfl))⟩
  f16 := ⟨Try.f93.name, by decide, Try.func93.trans (congrArg some (by kernel_rfl))⟩
  f17 := ⟨Try.f94.name, by decide, Try.func94.trans (congrArg some (by kernel_rfl))⟩
  f18 := ⟨Try.f95.name, by decide, Try.func95.trans (congrArg some (by kernel_rfl))⟩
  f19 := Try.func96.trans (congrArg some (by kernel_rfl))
  f20 := Try.func97.trans (congrArg some (by kernel_rfl))
  f30 := ⟨Try.f98.name, by decide, Try.func98.trans (congrArg some (by kernel_rfl))⟩
  f31 := Try.func99.trans (congrArg some (by kernel_rfl))
  f32 := Try.func100.trans (congrArg some (by kernel_rfl))
  f33 := ⟨Try.f101.name, by decide, Try.func101.trans (congrArg some (by kernel_rfl))⟩
  f34 := ⟨Try.f102.name, by decide, Try.func102.trans (congrArg some (by kernel_rfl))⟩
  f35 := ⟨Try.f103.name, by decide, Try.func103.trans (congrArg some (by kernel_rfl))⟩
  f40 := ⟨Try.f104.name, by decide, Try.func104.trans (congrArg some (by kernel_rfl))⟩
  t0 := Try.underlying0
  a0 := Try.isAgg0
  z0 := Try.sizeOf0
  v0 := Try.zeroValue0
  t3 := Try.underlying3
  a3 := Try.isAgg3
  z3 := Try.sizeOf3
  v3 := Try.zeroValue3
  t4 := Try.underlying4
  a4 := Try.isAgg4
  z4 := Try.sizeOf4
  v4 := Try.zeroValue4
  t5 := Try.underlying5
  a5 := Try.isAgg5
  z5 := Try.sizeOf5
  v5 := Try.zeroValue5
  t9 := Try.underlying9
  a9 := Try.isAgg9
  z9 := Try.sizeOf9
  v9 := Try.zeroValue9
  t22 := Try.underlying27
  a22 := Try.isAgg27
  z22 := Try.sizeOf27
  v22 := Try.zeroValue27
  t23 := Try.underlying27
  a23 := Try.isAgg27
  z23 := Try.sizeOf27
  v23 := Try.zeroValue27
  t25 := Try.underlying3
  a25 := Try.isAgg3
  z25 := Try.sizeOf3
  v25 := Try.zeroValue3
  t32 := Try.underlying133
  a32 := Try.isAgg133
  z32 := Try.sizeOf133
  v32 := Try.zeroValue133
  t35 := Try.underlying157
  a35 := Try.isAgg157
  z35 := Try.sizeOf157
  v35 := Try.zeroValue157
  t36 := Try.underlying158
  a36 := Try.isAgg158
  z36 := Try.sizeOf158
  v36 := Try.zeroValue158
  t41 := Try.underlying135
  a41 := Try.isAgg135
  z41 := Try.sizeOf135
  v41 := Try.zeroValue135
  t44 := Try.underlying79
  a44 := Try.isAgg79
  z44 := Try.sizeOf79
  v44 := Try.zeroValue79
  t46 := Try.underlying166
  a46 := Try.isAgg166
  z46 := Try.sizeOf166
  v46 := Try.zeroValue166
  t53 := Try.underlying167
  a53 := Try.isAgg167
  z53 := Try.sizeOf167
  v53 := Try.zeroValue167
  t57 := Try.underlying171
  a57 := Try.isAgg171
  z57 := Try.sizeOf171
  v57 := Try.zeroValue171
  t63 := Try.underlying173
  a63 := Try.isAgg173
  z63 := Try.sizeOf173
  v63 := Try.zeroValue173
  t64 := Try.underlying174
  a64 := Try.isAgg174
  z64 := Try.sizeOf174
  v64 := Try.zeroValue174 }
end Go.Proofs
namespace Go.Proofs.Ytihjpbalkjhjbaa
open Go.RowKit Go.MapKept Go.MuLone Go.Shelf Go.Sort
theorem nodup_le : ∀ {l m : List Int}, l.Nodup → (∀ x ∈ l, x ∈ m) → l.length ≤ m.length
  | [], m, _, _ => by simp
  | x :: l, m, hn, hs => by
    rw [List.nodup_cons] at hn
    have hx : x ∈ m := hs x (by simp)
    have h1 := nodup_le (m := m.erase x) hn.2 fun y hy => (List.mem_erase_of_ne (fun e => hn.1 (by rw [← e]; exact hy))).2 (hs y (by simp [hy]))
    rw [List.length_erase_of_mem hx] at h1
    have := List.length_pos_of_mem hx
    simp only [List.length_cons]
    omega
theorem rising_ext : ∀ {l m : List Int}, l.Pairwise (· < ·) → m.Pairwise (· < ·) → (∀ x, x ∈ l ↔ x ∈ m) → l = m
  | [], [], _, _, _ => rfl
  | [], y :: m, _, _, h => absurd ((h y).2 (by simp)) (by simp)
  | x :: l, [], _, _, h => absurd ((h x).1 (by simp)) (by simp)
  | x :: l, y :: m, hl, hm, h => by
    rw [List.pairwise_cons] at hl hm
    have e : x = y := by
      rcases List.mem_cons.1 ((h x).1 (by simp)) with q | q
      · exact q
      · rcases List.mem_cons.1 ((h y).2 (by simp)) with q2 | q2
        · exact q2.symm
        · have := hm.1 x q
          have := hl.1 y q2
          omega
    subst e
    rw [rising_ext hl.2 hm.2 fun z => ⟨fun hz => ?_, fun hz => ?_⟩]
    · rcases List.mem_cons.1 ((h z).1 (by simp [hz])) with q | q
      · have := hl.1 z hz
        omega
      · exact q
    · rcases List.mem_cons.1 ((h z).2 (by simp [hz])) with q | q
      · have := hm.1 z hz
        omega
      · exact q
theorem sort_rising {l m : List Int} (hn : l.Nodup) (hm : m.Pairwise (· < ·)) (h : ∀ x, x ∈ l ↔ x ∈ m) : (l.mergeSort fun x y => decide (x ≤ y)) = m := by
  refine rising_ext ?_ hm fun x => ((List.mergeSort_perm l _).mem_iff).trans (h x)
  have tr : ∀ a b c : Int, decide (a ≤ b) = true → decide (b ≤ c) = true → decide (a ≤ c) = true := fun a b c h1 h2 => by simp only [decide_eq_true_eq] at *; omega
  have tot : ∀ a b : Int, (decide (a ≤ b) || decide (b ≤ a)) = true := fun a b => by simp only [Bool.or_eq_true, decide_eq_true_eq]; omega
  have h1 := List.pairwise_mergeSort tr tot l
  have h2 : (l.mergeSort fun x y => decide (x ≤ y)).Nodup := (List.mergeSort_perm l _).nodup_iff.2 hn
  refine (h1.and h2).imp ?_
  intro a b ⟨q, hne⟩
  simp only [decide_eq_true_eq] at q
  exact Int.lt_iff_le_and_ne.2 ⟨q, hne⟩
/-- a row of numbers of a call's own -/
abbrev KRow (w W : World) (v : Value) (l : List Int) : Prop := W.ownsRow w.heap.size 3 1 v l.length (intsV l)
abbrev SRow (w W : World) (v : Value) (l : List ByteArray) : Prop := W.ownsRow w.heap.size 9 1 v l.length (strsV l)
theorem own_cells {w : World} {base n size : Nat} {e : TypeId} {v : Value} {xs : List Value} (h : w.ownsRow base e size v n xs) {g : Nat} (hg : v.ownBlock = some g) : ∃ cells, w.heap[g]? = some (.cells cells e (0, 0)) := by
  rcases h.2 with ⟨rfl, _⟩ | ⟨g', cap, cur, rfl, _, hh, _⟩
  · cases hg
  · injection hg with hg
    subst hg
    exact ⟨cur, hh⟩
theorem row_fresh {w w1 : World} {base n : Nat} {e : TypeId} {v : Value} {xs : List Value} (h : w.ownsRow base e 1 v n xs) (hf : Fresh w w1) : w1.ownsRow base e 1 v n xs :=
  row_move h fun g hg => hf.block g (h.lt g hg).2 (fun q => q)
section
variable {lk : Nat → Int} {w W : World} {tb : Nat} {lab : TLab} {T : Int → Option ByteArray} {bm : Nat → Nat} {f : Nat → Int → Option Value} {cs : Array Value}
theorem TabIs.f_iff (h : TabIs lk w tb lab T bm f cs) {i : Nat} (hi : i < 8) (k : Int) : f i k ≠ none ↔ (k % 8 = (i : Int) ∧ T k ≠ none) := by
  have he := h.ents i hi k
  by_cases hk : k % 8 = (i : Int)
  · rw [if_pos hk] at he
    cases q1 : f i k <;> cases q2 : T k
    · simp
    · rw [q1, q2] at he; exact he.elim
    · rw [q1, q2] at he; exact he.elim
    · simp [hk]
  · rw [if_neg hk] at he
    cases q1 : f i k with
    | none => simp [hk]
    | some v => rw [q1] at he; exact he.elim
theorem TabIs.fresh (h : TabIs lk w tb lab T bm f cs) (hf : Fresh w W) : TabIs lk W tb lab T bm f cs := h.only hf fun _ _ q => q
/-- behind the first i stripes: the keys -/
structure AllK (w W : World) (T : Int → Option ByteArray) (i : Nat) (v : Value) (ks : List Int) : Prop where
  row : KRow w W v ks
  fr : Fresh w W
  nd : ks.Nodup
  mem : ∀ k, k ∈ ks ↔ (T k ≠ none ∧ k % 8 < (i : Int))
/-- within stripe i -/
structure AllI (w W : World) (fi : Int → Option Value) (ib b : Nat) (ks : List Int) (cnt : Nat) (v : Value) (ks2 done : List Int) : Prop where
  it : Iter W ib b fi done cnt
  row : KRow w W v ks2
  fr : Fresh w W
  nd : ks2.Nodup
  mem : ∀ k, k ∈ ks2 ↔ (k ∈ ks ∨ k ∈ done)
  own : ∀ k ∈ done, fi k ≠ none
theorem AllK.len {i : Nat} {v : Value} {ks : List Int} (h : AllK w W T i v ks) {K : List Int} (hK : ∀ k, k ∈ K ↔ T k ≠ none) : ks.length ≤ K.length := nodup_le h.nd fun k hk => (hK k).2 ((h.mem k).1 hk).1
theorem AllI.len {fi : Int → Option Value} {ib b cnt : Nat} {ks ks2 done : List Int} {v : Value} (h : AllI w W fi ib b ks cnt v ks2 done) {K : List Int} (hK : ∀ k, k ∈ ks ∨ fi k ≠ none → k ∈ K) : ks2.length ≤ K.length :=
  nodup_le h.nd fun k hk => hK k (((h.mem k).1 hk).imp id (h.own k))
theorem AllI.start {i : Nat} {v : Value} {ks : List Int} (h : AllK w W T i v ks) {o : Obj} {b cnt : Nat} {fi : Int → Option Value} (hi : Iter (W.alloc o) W.heap.size b fi [] cnt) : AllI w (W.alloc o) fi W.heap.size b ks cnt v ks [] :=
  ⟨hi, row_fresh h.row (alloc_only _ _), h.fr.alloc _, h.nd, fun k => by simp, fun k hk => by cases hk⟩
theorem AllI.done {i : Nat} (ht : TabIs lk w tb lab T bm f cs) (hi : i < 8) {W0 : World} {v0 : Value} {ib b cnt : Nat} {ks ks2 done : List Int} {v : Value} (h0 : AllK w W0 T i v0 ks) (h : AllI w W (f i) ib b ks cnt v ks2 done) (hd : ∀ k, f i k ≠ none → k ∈ done) : AllK w W T (i + 1) v ks2 := by
  refine ⟨h.row, h.fr, h.nd, fun k => ?_⟩
  rw [h.mem k, h0.mem k]
  constructor
  · rintro (q | q)
    · exact ⟨q.1, by omega⟩
    · have := (ht.f_iff hi k).1 (h.own k q)
      exact ⟨this.2, by omega⟩
  · rintro ⟨q1, q2⟩
    by_cases e : k % 8 = (i : Int)
    · exact .inr (hd k ((ht.f_iff hi k).2 ⟨e, q1⟩))
    · exact .inl ⟨q1, by omega⟩
theorem AllI.row1 {fi : Int → Option Value} {ib b cnt : Nat} {ks ks2 done : List Int} {v : Value} {w1 : World} (h : AllI w W fi ib b ks cnt v ks2 done) (h5 : Turned W w1 ib) : KRow w w1 v ks2 := by
  obtain ⟨es, clock, since, seen, c0, _, _, _, _, hit, _⟩ := h.it
  refine row_move h.row fun g hg => h5.2.2.2.2 g ?_
  rintro rfl
  obtain ⟨cells, hc⟩ := own_cells h.row hg
  rw [hit] at hc
  cases hc
theorem AllI.base1 {fi : Int → Option Value} {ib b cnt : Nat} {ks ks2 done : List Int} {v : Value} {w1 : World} {o : Obj} (h : AllI w W fi ib b ks cnt v ks2 done) (h5 : Turned W w1 ib) : w.heap.size ≤ (w1.alloc o).heap.size := by
  have h1 := h.fr.size
  have h2 := (h5.only (S := fun c => c = ib) rfl).size
  simp
  omega
theorem AllI.more {fi : Int → Option Value} {ib b cnt cnt1 : Nat} {ks ks2 done : List Int} {v v0 : Value} {w1 w4 : World} {k : Int} (h : AllI w W fi ib b ks cnt v ks2 done) (hib : w.heap.size ≤ ib) (hbw : b < w.heap.size) (hks : ∀ k, k ∈ ks → fi k = none)
    (h1 : fi k = some v0) (h2 : k ∉ done) (h3 : Iter w1 ib b fi (k :: done) cnt1) (h5 : Turned W w1 ib) {A : Option Addr} {C : Nat} {o : Obj}
    (hown : w4.ownsRow w.heap.size 3 1 (.slice A (ks2.length + 1) C) (ks2.length + 1) (intsV ks2 ++ [.int .i64 k])) (hgrow : (w1.alloc o).grownBy w4 v.ownBlock) :
    AllI w w4 fi ib b ks cnt1 (.slice A (ks2 ++ [k]).length C) (ks2 ++ [k]) (k :: done) := by
  obtain ⟨es, clock, since, seen, c0, _, _, _, _, hit, _⟩ := h.it
  have hvi : some ib ≠ v.ownBlock := fun e => by
    obtain ⟨cells, hc⟩ := own_cells h.row e.symm
    rw [hit] at hc
    cases hc
  have hvb : some b ≠ v.ownBlock := fun e => by
    have := (h.row.lt b e.symm).1
    omega
  have hg4 : ∀ c, c < w1.heap.size → some c ≠ v.ownBlock → w4.heap[c]? = w1.heap[c]? := fun c hc hn => (hgrow.block c (by simp; omega) hn).trans (Below.heap_alloc w1 o c hc)
  obtain ⟨es1, clock1, since1, seen1, c1, hb1, _, _, _, hit1, _⟩ := h3
  have e1 := hg4 b (blk_lt hb1) hvb
  have e2 := hg4 ib (blk_lt hit1) hvi
  have hkk : k ∉ ks2 := fun q => by
    rcases (h.mem k).1 q with q | q
    · rw [hks k q] at h1; cases h1
    · exact h2 q
  refine ⟨Iter.of_blocks ⟨es1, clock1, since1, seen1, c1, hb1, by assumption, by assumption, by assumption, hit1, by assumption⟩ e1 e2, ?_, ?_, ?_, fun j => ?_, fun j hj => ?_⟩
  · have hl : (ks2 ++ [k]).length = ks2.length + 1 := by simp
    have hv : intsV (ks2 ++ [k]) = intsV ks2 ++ [.int .i64 k] := by simp [intsV]
    rw [KRow, hv, hl]
    exact hown
  · have hf1 : Fresh w w1 := h.fr.trans (h5.only (S := fun c => c = ib) rfl) fun c q => .inr (by rw [q]; exact hib)
    exact (hf1.alloc o).grown hgrow fun g hg => .inr (h.row.lt g hg).1
  · exact List.nodup_append.2 ⟨h.nd, by simp, fun a ha c hc => by
      rw [List.mem_singleton] at hc
      rintro rfl
      exact hkk (by rw [← hc]; exact ha)⟩
  · rw [List.mem_append, h.mem j, List.mem_singleton, List.mem_cons]
    constructor
    · rintro ((q | q) | q)
      · exact .inl q
      · exact .inr (.inr q)
      · exact .inr (.inl q)
    · rintro (q | q | q)
      · exact .inl (.inl q)
      · exact .inr q
      · exact .inl (.inr q)
  · rcases List.mem_cons.1 hj with rfl | q
    · rw [h1]; simp
    · exact h.own j q
end
theorem sort_keys {w W : World} {v : Value} {l : List Int} (h : KRow w W v l) (hf : Fresh w W) (hl : l.length ≤ 16777216) :
    Calls Try.prog 59 #[v] W fun e w' => e = .returned (.tuple #[]) ∧ KRow w w' v (l.mergeSort fun x y => decide (x ≤ y)) ∧ Fresh w w' := by
  have hlen : (l.mergeSort fun x y => decide (x ≤ y)).length = l.length := (List.mergeSort_perm l _).length_eq
  rcases h.2 with ⟨rfl, hz⟩ | ⟨gb, cap, cur, rfl, hbase, hgb, r1, r2, r3, r4⟩
  · have hl0 : l = [] := List.eq_nil_of_length_eq_zero hz
    subst hl0
    refine (AnyM.slices_Sort_int_none Try.sortA none 0 W).mono ?_
    rintro e w' ⟨rfl, rfl⟩
    exact ⟨rfl, by simpa using h, hf⟩
  · have hH := holds_of_blockI (ss := l) hgb (by simpa using r4)
    refine (AnyM.slices_Sort_int Try.sortA gb 0 cap l W hH (blk_lt hgb) (by omega)).mono ?_
    rintro e w' ⟨rfl, nn, os, rfl⟩
    refine ⟨rfl, ?_, hf.grown (grownBy_sortedI _) fun g hg => .inr (by injection hg with hg; omega)⟩
    have := ownsRow_sortedI (w := W) (base := w.heap.size) (n := nn) (os := os) hlen hbase hgb r1 r2 r3
    rw [KRow, hlen]
    exact this
/-- the values, the first i of them in their places -/
def valsTo (L : List (Int × ByteArray)) (i : Nat) : List ByteArray := (L.map (·.2)).take i ++ List.replicate (L.length - i) ⟨#[]⟩
theorem valsTo_len (L : List (Int × ByteArray)) {i : Nat} (h : i ≤ L.length) : (valsTo L i).length = L.length := by simp [valsTo]; omega
theorem valsTo_set {L : List (Int × ByteArray)} {i : Nat} (h : i < L.length) : (valsTo L i).set i (L[i]'h).2 = valsTo L (i + 1) := by
  apply List.ext_getElem?
  intro j
  unfold valsTo
  have hl : ((L.map (·.2)).take i).length = i := by simp; omega
  have hl2 : ((L.map (·.2)).take (i + 1)).length = i + 1 := by simp; omega
  rw [List.getElem?_set]
  by_cases e : i = j
  · subst e
    rw [if_pos rfl, if_pos (by simp; omega), List.getElem?_append_left (by omega), List.getElem?_take, if_pos (by omega), List.getElem?_map, List.getElem?_eq_getElem h]
    rfl
  · rw [if_neg e]
    by_cases hj : j < i
    · rw [List.getElem?_append_left (by omega), List.getElem?_append_left (by omega), List.getElem?_take, List.getElem?_take, if_pos hj, if_pos (by omega)]
    · rw [List.getElem?_append_right (by omega), List.getElem?_append_right (by omega), hl, hl2, List.getElem?_replicate, List.getElem?_replicate]
      by_cases hj2 : j < L.length
      · rw [if_pos (by omega), if_pos (by omega)]
      · rw [if_neg (by omega), if_neg (by omega)]
/-- the keys sorted; the first i values stand -/
structure AllV (w W : World) (A : Option Addr) (C vb : Nat) (L : List (Int × ByteArray)) (i : Nat) : Prop where
  kr : W.ownsRow w.heap.size 3 1 (.slice A L.length C) L.length (intsV (L.map (·.1)))
  vr : W.ownsRow w.heap.size 9 1 (.slice (some ⟨vb, 0, none⟩) L.length L.length) L.length (strsV (valsTo L i))
  fr : Fresh w W
theorem AllV.start {w W : World} {A : Option Addr} {C : Nat} {L : List (Int × ByteArray)} (h : W.ownsRow w.heap.size 3 1 (.slice A L.length C) L.length (intsV (L.map (·.1)))) (hf : Fresh w W) (hl : L.length ≤ 16777216) :
    AllV w (W.alloc (.cells (List.replicate L.length (Value.string ⟨#[]⟩)).toArray 9)) A C W.heap.size L 0 := by
  have hsz := hf.size
  refine ⟨row_fresh h (alloc_only _ _), ⟨by simp [strsV, valsTo], .inr ⟨W.heap.size, L.length, _, rfl, hsz, new_blk _, Nat.le_refl _, by unfold maxLen; omega, by simp, ?_⟩⟩, hf.alloc _⟩
  simp [strsV, valsTo]
theorem AllV.step {w W : World} {A : Option Addr} {C vb : Nat} {L : List (Int × ByteArray)} {i : Nat} (h : AllV w W A C vb L i) (hi : i < L.length) {s : ByteArray} (hs : s = (L[i]'hi).2) : AllV w (W.drew.setCell ⟨vb, i, none⟩ (.string s)) A C vb L (i + 1) := by
  have hv : (W.drew).ownsRow w.heap.size 9 1 (.slice (some ⟨vb, 0, none⟩) L.length L.length) L.length (strsV (valsTo L i)) := h.vr
  have hk : (W.drew).ownsRow w.heap.size 3 1 (.slice A L.length C) L.length (intsV (L.map (·.1))) := h.kr
  refine ⟨row_move hk fun g hg => Below.heap_setCell W.drew ⟨vb, i, none⟩ _ g ?_, ?_, (h.fr.drew).setCell (p := ⟨vb, i, none⟩) (.inr (hv.lt vb rfl).1) _⟩
  · rintro rfl
    obtain ⟨c1, h1⟩ := own_cells hk hg
    obtain ⟨c2, h2⟩ := own_cells hv rfl
    rw [h1] at h2
    cases h2
  · have := own_set hv i (.string s)
    rw [show (strsV (valsTo L i)).set i (Value.string s) = strsV (valsTo L (i + 1)) by rw [← valsTo_set hi, hs]; unfold strsV; rw [List.map_set]] at this
    exact this
theorem run_make_rowT {P : Program} (t e : TypeId) (i : TypeInfo) (z : Value) (ht : P.underlying t = some (.slice e)) (hi : P.info? e = some i) (hz : i.zero = some z)
    (kl kc : IntKind) (n c : Nat) (hnc : n ≤ c) (hbytes : i.bytes * c ≤ 281474976710656) (h63 : c ≤ 9223372036854775807) (w : World) :
    (Instr.makeSlice t (.int kl (n : Int)) (.int kc (c : Int))).run P w = .ok (.slice (some ⟨w.heap.size, 0, none⟩) n c) (w.alloc (.cells (madeCells z.cells (c * i.size)) e)) := by
  have hb : (i.bytes : Int) * (c : Int) ≤ 281474976710656 := by
    have h : ((i.bytes * c : Nat) : Int) ≤ 281474976710656 := by omega
    rwa [Int.natCast_mul] at h
  have hr := run_make (P := P) w t e i z ht hi hz kl kc n c (by omega) (by omega) hb (by omega)
  simp only [Int.toNat_natCast] at hr
  exact hr
theorem madeCells_oneT (z : Value) (hz : z.cells = #[z]) (n : Nat) : madeCells z.cells (n * 1) = (List.replicate n z).toArray := by
  apply Array.ext'
  apply List.ext_getElem?
  intro i
  rw [hz]
  simp only [madeCells, Array.toList_map, Array.toList_range, List.getElem?_map, List.getElem?_replicate, Nat.mul_one]
  by_cases h : i < n
  · rw [List.getElem?_range h, if_pos h]
    simp [Nat.mod_one]
  · rw [List.getElem?_eq_none (by simp; omega), if_neg h]
    rfl
theorem run_makeStrs (n : Nat) (hn : n ≤ 16777216) : ∀ w, (Instr.makeSlice 28 (.int .i64 (n : Int)) (.int .i64 (n : Int))).run Try.prog w = .ok (.slice (some ⟨w.heap.size, 0, none⟩) n n) (w.alloc (.cells (List.replicate n (Value.string ⟨#[]⟩)).toArray 9)) := by
  intro w
  obtain ⟨i0, hi, hz0, hz1, hz2⟩ := info_parts rinfoStr
  have := run_make_rowT 28 9 i0 _ Try.underlying28 hi hz0 .i64 .i64 n n (Nat.le_refl _) (by rw [hz2]; omega) (by omega) w
  rw [hz1, madeCells_oneT _ rfl] at this
  exact this
theorem TabIs.look_all {lk : Nat → Int} {w : World} {tb : Nat} {lab : TLab} {T : Int → Option ByteArray} {bm : Nat → Nat} {f : Nat → Int → Option Value} {cs : Array Value} (h : TabIs lk w tb lab T bm f cs) {i : Nat} (hi : i < 8) (k : Int) (hki : k % 8 = (i : Int)) (s : ByteArray) (hk : T k = some s) :
    Calls Try.prog 37 #[.pointer (some ⟨tb, i * 3, none⟩), .int .i64 k] w fun e w' => e = .returned (.tuple #[.string s, .bool true]) ∧ w' = w := by
  have hent := h.ents i hi k
  rw [if_pos hki, hk] at hent
  obtain ⟨v, hv⟩ : ∃ v, f i k = some v := by
    cases hq : f i k with
    | none => rw [hq] at hent; exact hent.elim
    | some v => exact ⟨v, rfl⟩
  rw [hv] at hent
  obtain ⟨eb, rfl, hbe, hle⟩ := hent
  exact lookup_some w tb i (bm i) eb (f i) k s (blk_cell h.self (h.mapc i hi)) (h.maps i hi) hv (blk_cell (i := 0) hbe rfl) (blk_cell (i := 1) hbe rfl)
/-- what all leaves -/
def AllPost (w w' : World) (e : Ending) (L : List (Int × ByteArray)) : Prop :=
  ∃ v1 v2, e = .returned (.tuple #[v1, v2]) ∧ KRow w w' v1 (L.map (·.1)) ∧ SRow w w' v2 (L.map (·.2)) ∧ Fresh w w'
set_option maxRecDepth 100000 in
set_option maxHeartbeats 2000000 in
theorem all_walk {lk : Nat → Int} {w : World} {tb : Nat} {lab : TLab} {T : Int → Option ByteArray} {bm : Nat → Nat} {f : Nat → Int → Option Value} {cs : Array Value} (h : TabIs lk w tb lab T bm f cs)
    (L : List (Int × ByteArray)) (hr : (L.map (·.1)).Pairwise (· < ·)) (hT : ∀ k, k ∈ L.map (·.1) ↔ T k ≠ none) (hV : ∀ x ∈ L, T x.1 = some x.2) (hlen : L.length ≤ 16777216) :
    Calls Try.prog 38 #[.pointer (some ⟨tb, 0, none⟩)] w fun e w' => AllPost w w' e L := by
  obtain ⟨i0, hin, hz0', hz1', hz2'⟩ := info_parts rinfoInt
  have HIN := Lib.hid (And.intro hin (And.intro hz0' (And.intro hz1' hz2')))
  have htb := blk_lt h.self
  have H := Lib.hid h
  have HR := Lib.hid hr
  have HT := Lib.hid hT
  have HV := Lib.hid hV
  have HL := Lib.hid hlen
  clear hin hz0' hz1' hz2' h hr hT hV hlen
  go_enter Try.func38, Try.ntmps38
  go_wp2_with fail
  go_loopw [4, 10] (fun s4 s10 wr => ∃ (i : Nat) (A : Option Addr) (C : Nat) (ks : List Int), i ≤ 8 ∧ s4 = .slice A ks.length C ∧ s10 = .int .i64 i ∧ AllK w wr T i (.slice A ks.length C) ks) (fun _ s10 _ => 8 - (intOf s10).toNat)
  case atStart => exact ⟨0, none, 0, [], Nat.zero_le _, rfl, rfl, ⟨rfl, .inl ⟨rfl, rfl⟩⟩, Only.refl _ _, List.nodup_nil, fun k => by simp; omega⟩
  case round =>
    obtain ⟨i, A, C, ks, hi, rfl, rfl, hk⟩ := hrel
    have HK := Lib.hid hk
    have hsz := hk.fr.size
    have htb2 : tb < wr.heap.size := Nat.lt_of_lt_of_le htb hsz
    clear hk
    by_cases hlt : i < 8
    · have hlI : (i : Int) < 8 := by omega
      have hl0 : (0 : Int) ≤ (i : Int) := by omega
      have hlD : decide ((i : Int) < 8) = true := by simp; omega
      have c2 : wr.cell? ⟨tb, i * 3 + 2, none⟩ = some (.map (some (bm i))) := blk_cell (H.out.fresh HK.out.fr).self (H.out.mapc i hlt)
      obtain ⟨hrg, cnt0, hit⟩ := IMap.run_range (P := Try.prog) Try.underlying84 ((H.out.fresh HK.out.fr).maps i hlt)
      have hst := AllI.start HK.out hit
      have hbl := (H.out.maps i hlt).lt
      obtain ⟨ib, hib⟩ : ∃ ib, ib = wr.heap.size := ⟨_, rfl⟩
      rw [← hib] at hrg hst
      have hibw : w.heap.size ≤ ib := by omega
      have hibb : ib ≠ bm i := by omega
      have HST := Lib.hid hst
      clear hst hit hib
      generalize wr.alloc (match wr.heap[bm i]? with | some (.map _ clock) => .mapIter (some (bm i)) clock #[] clock | _ => .mapIter none 0 #[] 0) = wi at *
      go_wp2_with fail
      go_loopg [4] cnt0 (fun cnt s4 wq => ∃ (A2 : Option Addr) (C2 : Nat) (ks2 done : List Int), s4 = .slice A2 ks2.length C2 ∧ AllI w wq (f i) ib (bm i) ks cnt (.slice A2 ks2.length C2) ks2 done)
      case atStart => exact ⟨A, C, ks, [], rfl, HST.out⟩
      case round =>
        obtain ⟨A2, C2, ks2, done, rfl, hq⟩ := hrel
        have HQ := Lib.hid hq
        have hl2 : ks2.length ≤ 16777216 := by
          have := hq.len (K := L.map (·.1)) fun k q => (HT.out k).2 (by
            rcases q with q | q
            · exact ((HK.out.mem k).1 q).1
            · exact ((H.out.f_iff hlt k).1 q).2)
          have h2 := HL.out
          simp only [List.length_map] at this
          omega
        have hks : ∀ k, k ∈ ks → f i k = none := fun k q => by
          cases e : f i k with
          | none => rfl
          | some v =>
            have h1 := (H.out.f_iff hlt k).1 (by rw [e]; simp)
            have h2 := (HK.out.mem k).1 q
            omega
        have HKS := Lib.hid hks
        clear hq hks
        go_wp2_with (first
          | (at_next; refine wpl_next rfl _ rfl rfl HQ.out.it hibb (fun hd => ?_) (fun k v w1 cnt1 h1 h2 h3 h4 h5 h6 => ?_); any_goals (first | (have HD := Lib.hid hd; clear hd) | (have HK1 := Lib.hid h1; have HK2 := Lib.hid h2; have HI3 := Lib.hid h3; have HT5 := Lib.hid h5; have HR1 := Lib.hid (HQ.out.row1 h5); clear h1 h2 h3 h5)))
          | (at_builtin; (refine wpl_app _ rfl _ _ 27 rfl w.heap.size 3 i0 (.int .i64 0) 1 8 Try.underlying27 HIN.out.1 HIN.out.2.1 HIN.out.2.2.1 HIN.out.2.2.2 rfl (by decide) (.slice A2 ks2.length C2) ks2.length (intsV ks2) rfl (row_fresh HR1.out (alloc_only _ _)) w1.heap.size 1 1 [.int .i64 k] 3 (0, 0) rfl (new_blk _) rfl (by simp [Value.oneCell']) (by unfold maxLen; omega) (by omega) (HQ.out.base1 HT5.out) ?_); intro A4 C4 w4 hown hgrow hat; have HW := Lib.hid (And.intro hown hgrow); clear hown hgrow hat))
        · go_roundw
          case rel => exact ⟨i + 1, A2, C2, ks2, by omega, rfl, by go_num, HQ.out.done H.out hlt HK.out HD.out⟩
          case measure => simp [intOf]; omega
        · go_roundg cnt1
          case measure => exact h4
          case rel =>
            exact ⟨A4, C4, ks2 ++ [k], k :: done, by simp, HQ.out.more hibw hbl HKS.out HK1.out HK2.out HI3.out HT5.out HW.out.1 HW.out.2⟩
    · obtain rfl : i = 8 := by omega
      have hmem : ∀ k, k ∈ ks ↔ k ∈ L.map (·.1) := fun k => by
        rw [HK.out.mem k, HT.out k]
        constructor
        · exact fun q => q.1
        · exact fun q => ⟨q, by omega⟩
      have hso := sort_rising HK.out.nd HR.out hmem
      have hkl : ks.length = L.length := by
        have := (List.mergeSort_perm ks fun x y => decide (x ≤ y)).length_eq
        rw [hso] at this
        simpa using this.symm
      have hs := sort_keys HK.out.row HK.out.fr (by rw [hkl]; exact HL.out)
      rw [hso, hkl] at hs
      rw [hkl]
      have HS := Lib.hid hs
      have hmk := run_makeStrs L.length HL.out
      have hln : L.length ≤ 16777216 := HL.out
      clear hs hso hkl hmem
      go_wp2_with fail
      refine HS.out.mono ?_
      clear HS
      rintro e w1 ⟨rfl, hr1, hf1⟩
      have hst := AllV.start (A := A) (C := C) (by simpa [KRow] using hr1) hf1 hln
      obtain ⟨vb, hvb⟩ : ∃ vb, vb = w1.heap.size := ⟨_, rfl⟩
      rw [← hvb] at hst
      have hsz1 := hf1.size
      rw [show (List.replicate L.length (Value.string ⟨#[]⟩)).toArray = Array.replicate L.length (Value.string ⟨#[]⟩) by simp] at hst
      have HST := Lib.hid hst
      have HVB := Lib.hid hvb
      clear hst hr1 hf1
      go_wp2_with fail
      rw [← HVB.out]
      refine nameW ?_
      intro V hV
      rw [← hV] at HST
      clear hV HVB hvb hmk
      go_loopw [37] (fun s37 wq => ∃ i : Nat, i ≤ L.length ∧ s37 = .int .i64 i ∧ AllV w wq A C vb L i) (fun s37 _ => L.length - (intOf s37).toNat)
      case atStart => exact ⟨0, Nat.zero_le _, rfl, HST.out⟩
      case round =>
        obtain ⟨i, hiL, rfl, hv⟩ := hrel
        have HVV := Lib.hid hv
        by_cases hlt2 : i < L.length
        · obtain ⟨x, hx⟩ : ∃ x, x = L[i]'hlt2 := ⟨_, rfl⟩
          have hxm : x ∈ L := by rw [hx]; exact List.getElem_mem hlt2
          obtain ⟨g, rfl, k1, _, _⟩ := own_at (i := i) (x := .int .i64 x.1) hv.kr (by rw [hx]; simp [intsV, hlt2])
          obtain ⟨j, hj⟩ : ∃ j : Nat, x.1 % 8 = (j : Int) := ⟨(x.1 % 8).toNat, by omega⟩
          have hj8 : j < 8 := by omega
          have HPL := Lib.hid (fun W => place_any W x.1 j hj)
          have HLK := Lib.hid (fun W (hW : Fresh w W) => (H.out.fresh hW).look_all hj8 x.1 hj x.2 (HV.out x hxm))
          obtain ⟨u, v1⟩ : ∃ u, wr.cell? ⟨vb, i, none⟩ = some u := by
            obtain ⟨_, q1, q2, _⟩ := own_at (i := i) (x := .string ((valsTo L i)[i]'(by rw [valsTo_len L hiL]; exact hlt2))) hv.vr (by unfold strsV; rw [List.getElem?_map, List.getElem?_eq_getElem (by rw [valsTo_len L hiL]; exact hlt2)]; rfl)
            cases q1
            exact ⟨_, q2⟩
          have v2 : wr.frozen? ⟨vb, i, none⟩ = false := by
            obtain ⟨c1, h1⟩ := own_cells hv.vr rfl
            exact blk_frozen h1 i
          have HX := Lib.hid hx
          have hiI : (i : Int) < (L.length : Int) := by omega
          have hi0 : (0 : Int) ≤ (i : Int) := by omega
          have hiD : decide ((i : Int) < (L.length : Int)) = true := by simp; omega
          have hjI : (j : Int) < 8 := by omega
          have hj0 : (0 : Int) ≤ (j : Int) := by omega
          have hjD : decide ((j : Int) < 8) = true := by simp; omega
          clear hv hx hxm hj
          go_wp2_with fail
          go_region_with (first
            | (go_at_call 34; refine (HPL.out _).mono ?_; rintro e w5 ⟨rfl, rfl⟩)
            | (go_at_call 37; refine (HLK.out _ (by repeat (first | exact HVV.out.fr | refine Only.drew ?_))).mono ?_; rintro e w5 ⟨rfl, rfl⟩))
          go_wp2_with fail
          go_roundw
          case rel => exact ⟨i + 1, by omega, by go_num, HVV.out.step hlt2 (by rw [← HX.out])⟩
          case measure => simp [intOf]; omega
        · obtain rfl : i = L.length := by omega
          clear hv
          go_wp2_with fail
          go_ret2
          refine ⟨_, _, rfl, ?_, ?_, HVV.out.fr⟩
          · have := HVV.out.kr
            simpa [KRow] using this
          · have := HVV.out.vr
            rw [show valsTo L L.length = L.map (·.2) by simp [valsTo, List.take_of_length_le]] at this
            simpa [SRow] using this
end Go.Proofs.Ytihjpbalkjhjbaa
namespace Go.Proofs.Ytihjpbalkjhjbaa
abbrev POp := PTableEnds.S23
abbrev PRep := PTableEnds.S50
abbrev PMo := PTableEnds.S52
def zRep : PRep := ⟨false, ⟨#[]⟩, [], []⟩
section
variable {P : Program} {md : Region.Mode} {ops : Array Oper} {Q : Exit → Act → World → Prop}
theorem wpAnyH_step {S : World → Prop} {fuel : Nat} {listed : Array Bool} {a : Act} {w : World} {i : Nat} {o : Oper} (hr : Region.ready md ops listed = [i]) (ho : ops[i]? = some o) (hw : Region.wanted o (yielded ops a.tmps) = true)
    (h : ∀ K : Act → World → Prop, (∀ a' w', S w' → wpAnyH P md ops Q S fuel (listed.setIfInBounds i true) a' w' → K a' w') → o.wp P a w K Q) : wpAnyH P md ops Q S (fuel + 1) listed a w := by
  refine wpAnyH_all hr (by simp) fun j hj => ?_
  obtain rfl := List.mem_singleton.1 hj
  unfold wpOp
  rw [ho]
  dsimp only
  rw [if_pos hw]
  exact .inl (h _ fun _ _ q1 q2 => ⟨q1, q2⟩)
theorem wpAnyH_two {S : World → Prop} {fuel : Nat} {listed : Array Bool} {a : Act} {w : World} {i k : Nat} {o p : Oper} (hr : Region.ready md ops listed = [i, k]) (ho : ops[i]? = some o) (hp : ops[k]? = some p) (hw : Region.wanted o (yielded ops a.tmps) = true) (hw' : Region.wanted p (yielded ops a.tmps) = true)
    (h : ∀ K : Act → World → Prop, (∀ a' w', S w' → wpAnyH P md ops Q S fuel (listed.setIfInBounds i true) a' w' → K a' w') → o.wp P a w K Q) (h' : ∀ K : Act → World → Prop, (∀ a' w', S w' → wpAnyH P md ops Q S fuel (listed.setIfInBounds k true) a' w' → K a' w') → p.wp P a w K Q) : wpAnyH P md ops Q S (fuel + 1) listed a w := by
  refine wpAnyH_all hr (by simp) fun j hj => ?_
  rcases List.mem_cons.1 hj with rfl | hj
  · unfold wpOp
    rw [ho]
    dsimp only
    rw [if_pos hw]
    exact .inl (h _ fun _ _ q1 q2 => ⟨q1, q2⟩)
  · obtain rfl := List.mem_singleton.1 hj
    unfold wpOp
    rw [hp]
    dsimp only
    rw [if_pos hw']
    exact .inl (h' _ fun _ _ q1 q2 => ⟨q1, q2⟩)
end
end Go.Proofs.Ytihjpbalkjhjbaa
namespace Go.Proofs.Ytihjpbalkjhjbaa
open Go.RowKit Go.MapKept Go.Proofs.YtihjpbalkjhjbaaW.PrintWords Go.Proofs.YtihjpbalkjhjbaaW.PrintLast Go.Proofs.YtihjpbalkjhjbaaW.PrintMore Go.Proofs.Ytihjpbalkjhjbaa.PTableEnds
theorem copyInts_loop (l : List Int) (hl : l.length ≤ 1099511627777) : ∀ (k i : Nat), i ≤ l.length → l.length < k + i → fugueref00_CopyInts.l0 k l (l.take i) i = some l := by
  intro k
  induction k with
  | zero => intro i h1 h2; omega
  | succ k ih =>
    intro i h1 h2
    unfold fugueref00_CopyInts.l0
    by_cases hi : i < l.length
    · have hw : wrap64 ((i : Int) + 1) = ((i + 1 : Nat) : Int) := by unfold wrap64; omega
      have ht : l.take i ++ [rd l (i : Int)] = l.take (i + 1) := by
        rw [List.take_add_one, List.getElem?_eq_getElem hi]
        show _ ++ [l.getD (i : Int).toNat 0] = _
        rw [Int.toNat_natCast, List.getD_eq_getElem?_getD, List.getElem?_eq_getElem hi]
        rfl
      rw [if_pos (by omega), if_pos (by omega), if_pos (by simp; omega), hw, ht]
      exact ih (i + 1) (by omega) (by omega)
    · obtain rfl : i = l.length := by omega
      rw [if_neg (by omega), List.take_length]
theorem copyInts_some (l : List Int) (hl : l.length ≤ 1099511627777) : fugueref00_CopyInts.f (l.length + 1) l = some l := copyInts_loop l hl (l.length + 1) 0 (Nat.zero_le _) (by omega)
theorem copyStrings_loop (l : List ByteArray) (hl : l.length ≤ 1099511627777) : ∀ (k i : Nat), i ≤ l.length → l.length < k + i → fugueref00_CopyStrings.l0 k l (l.take i) i = some l := by
  intro k
  induction k with
  | zero => intro i h1 h2; omega
  | succ k ih =>
    intro i h1 h2
    unfold fugueref00_CopyStrings.l0
    by_cases hi : i < l.length
    · have hw : wrap64 ((i : Int) + 1) = ((i + 1 : Nat) : Int) := by unfold wrap64; omega
      have ht : l.take i ++ [rdOf ByteArray.empty l (i : Int)] = l.take (i + 1) := by
        rw [List.take_add_one, List.getElem?_eq_getElem hi]
        show _ ++ [l.getD (i : Int).toNat ByteArray.empty] = _
        rw [Int.toNat_natCast, List.getD_eq_getElem?_getD, List.getElem?_eq_getElem hi]
        rfl
      rw [if_pos (by omega), if_pos (by omega), if_pos (by simp; omega), hw, ht]
      exact ih (i + 1) (by omega) (by omega)
    · obtain rfl : i = l.length := by omega
      rw [if_neg (by omega), List.take_length]
theorem copyStrings_some (l : List ByteArray) (hl : l.length ≤ 1099511627777) : fugueref00_CopyStrings.f (l.length + 1) l = some l := copyStrings_loop l hl (l.length + 1) 0 (Nat.zero_le _) (by omega)
theorem own_reads1 {α : Type} {enc : α → Value} {h1 : ∀ x, (enc x).oneCell' = true} {w : World} {base : Nat} {e : TypeId} {A : Option Addr} {c : Nat} {xs : List α} (h : w.ownsRow base e 1 (.slice A xs.length c) xs.length (xs.map enc)) : (Kd.scalar enc h1).C w A xs.length xs ∧ xs.length ≤ c := by
  have hO : OwnRow (fun x cs => cs = [enc x]) e 1 w base (.slice A xs.length c) xs := ⟨_, h, Kd.reps_scalar xs⟩
  obtain ⟨A', c', he, hc, hR⟩ := hO.reads
  injection he with e1 _ e2
  subst e1
  subst e2
  exact ⟨hR, hc⟩
theorem RTab.drew {W : World} {t base : Nat} {K : List Int} {V : List ByteArray} {vk vv : Value} (h : RTab W t base K V vk vv) (n : Nat) : RTab (W.drewN n) t base K V vk vv := ⟨h.blk, h.keys, h.vals, h.out, h.apart, h.len, h.small⟩
theorem RTab.below {W W1 : World} {t base : Nat} {K : List Int} {V : List ByteArray} {vk vv : Value} (h : RTab W t base K V vk vv) (hb : Below W.heap.size W W1) : RTab W1 t base K V vk vv :=
  ⟨blk_below h.blk hb, row_move h.keys fun g e => hb.block g (own_lt h.keys e), row_move h.vals fun g e => hb.block g (own_lt h.vals e), h.out, h.apart, h.len, h.small⟩
set_option maxRecDepth 100000 in
set_option maxHeartbeats 1000000 in
theorem rpub_old {w : World} {t base : Nat} {K : List Int} {V : List ByteArray} {vk vv : Value} (h : RTab w t base K V vk vv) (hr : Rising K) (key : Int) (val : ByteArray) (hno : ∀ lo, AtPlace K key lo → foundB K key lo = true) :
    Calls Try.prog 52 #[.pointer (some ⟨t, 0, none⟩), .int .i64 key, .string val] w fun e w' => e = .returned (.bool false) ∧ ∃ n, w' = w.drewN n := by
  have hat := rat_calls h hr key
  have H := Lib.hid (And.intro h hno)
  clear h hr hno
  go_enter Try.func52, Try.ntmps52
  go_wp2_with fail
  refine hat.mono ?_
  rintro e w1 ⟨lo, hlo, rfl, n, rfl⟩
  rw [H.out.2 lo hlo]
  clear hat hlo
  go_wp2_with fail
  go_ret
  exact ⟨rfl, _, rfl⟩
set_option maxRecDepth 100000 in
set_option maxHeartbeats 1000000 in
theorem rlook_none {w : World} {t base : Nat} {K : List Int} {V : List ByteArray} {vk vv : Value} (h : RTab w t base K V vk vv) (hr : Rising K) (key : Int) (hno : ∀ lo, AtPlace K key lo → foundB K key lo = false) :
    Calls Try.prog 53 #[.pointer (some ⟨t, 0, none⟩), .int .i64 key] w fun e w' => e = .returned (.tuple #[.string ⟨#[]⟩, .bool false]) ∧ ∃ n, w' = w.drewN n := by
  have hat := rat_calls h hr key
  have H := Lib.hid (And.intro h hno)
  clear h hr hno
  go_enter Try.func53, Try.ntmps53
  go_wp2_with fail
  refine hat.mono ?_
  rintro e w1 ⟨lo, hlo, rfl, n, rfl⟩
  rw [H.out.2 lo hlo]
  clear hat hlo
  go_wp2_with fail
  go_ret2
  exact ⟨rfl, _, rfl⟩
set_option maxRecDepth 100000 in
set_option maxHeartbeats 1000000 in
theorem rlook_some {w : World} {t base : Nat} {K : List Int} {V : List ByteArray} {vk vv : Value} (h : RTab w t base K V vk vv) (hr : Rising K) (key : Int) (hno : ∀ lo, AtPlace K key lo → foundB K key lo = true) :
    Calls Try.prog 53 #[.pointer (some ⟨t, 0, none⟩), .int .i64 key] w fun e w' => ∃ lo, AtPlace K key lo ∧ e = .returned (.tuple #[.string (V.getD lo ⟨#[]⟩), .bool true]) ∧ ∃ n, w' = w.drewN n := by
  have hat := rat_calls h hr key
  obtain ⟨A, c, rfl⟩ := own_slice h.keys
  obtain ⟨B, d, rfl⟩ := own_slice h.vals
  have c1 := blk_cell h.blk (i := 1) rfl
  have hlen := h.len
  have hsm := h.small
  have H := Lib.hid (And.intro h (And.intro hno (And.intro hlen hsm)))
  clear h hr hno hlen hsm
  have hu := Try.underlying61
  go_enter Try.func53, Try.ntmps53
  go_wp2_with fail
  refine hat.mono ?_
  rintro e w1 ⟨lo, hlo, rfl, n, rfl⟩
  have hf := H.out.2.1 lo hlo
  have hl : lo < K.length := by
    unfold foundB at hf
    rw [Bool.and_eq_true] at hf
    exact of_decide_eq_true hf.1
  rw [hf]
  obtain ⟨g, e1, x1, _, _⟩ := own_at H.out.1.vals (i := lo) (strsV_at (by rw [← H.out.2.2.1]; exact hl))
  subst e1
  obtain ⟨y, hy⟩ : ∃ y, y = V.getD lo ⟨#[]⟩ := ⟨_, rfl⟩
  rw [← hy] at x1
  have HY := Lib.hid hy
  clear hy
  have hlV : lo < V.length := by rw [← H.out.2.2.1]; exact hl
  have hlD : decide ((lo : Int) < (V.length : Int)) = true := by simp; omega
  have HLO := Lib.hid hlo
  clear hat hlo hf
  go_wp2_with fail
  go_ret2
  exact ⟨lo, HLO.out, by rw [← HY.out]; rfl, _, rfl⟩
/-- copies of a table's lists -/
structure Copies (w w' : World) (K : List Int) (V : List ByteArray) (v2 v3 : Value) : Prop where
  keys : w'.ownsRow w.heap.size 3 1 v2 K.length (intsV K)
  vals : w'.ownsRow w.heap.size 9 1 v3 V.length (strsV V)
  below : Below w.heap.size w w'
theorem rown_lower {w : World} {base base' n : Nat} {e : TypeId} {v : Value} {xs : List Value} (h : w.ownsRow base e 1 v n xs) (hb : base' ≤ base) : w.ownsRow base' e 1 v n xs := by
  refine ⟨h.1, ?_⟩
  rcases h.2 with hh | ⟨g, cap, cur, rfl, h1, rest⟩
  · exact .inl hh
  · exact .inr ⟨g, cap, cur, rfl, by omega, rest⟩
set_option maxRecDepth 100000 in
set_option maxHeartbeats 2000000 in
theorem rsnap {w : World} {t base : Nat} {K : List Int} {V : List ByteArray} {vk vv : Value} (h : RTab w t base K V vk vv) :
    Calls Try.prog 54 #[.pointer (some ⟨t, 0, none⟩)] w fun e w' => ∃ v2 v3, e = .returned (.tuple #[v2, v3]) ∧ Copies w w' K V v2 v3 := by
  obtain ⟨A, c, rfl⟩ := own_slice h.keys
  obtain ⟨B, d, rfl⟩ := own_slice h.vals
  obtain ⟨k1, k2⟩ := own_reads1 (h1 := fun _ => rfl) h.keys
  obtain ⟨k3, k4⟩ := own_reads1 (h1 := fun _ => rfl) h.vals
  have c0 := blk_cell h.blk (i := 0) rfl
  have c1 := blk_cell h.blk (i := 1) rfl
  have lt := blk_lt h.blk
  have hsm := h.small
  have hlen := h.len
  have hs1 := copyInts_some K (by omega)
  have hs2 := copyStrings_some V (by omega)
  have hi := fun (W : World) (hb : Below w.heap.size w W) => fugueref00_CopyInts.calls (K.length + 1) A c K K W (Kd.C_below k1 hb) k2 hs1
  have hv := fun (W : World) (hb : Below w.heap.size w W) => fugueref00_CopyStrings.calls (V.length + 1) B d V V W (Kd.C_below k3 hb) k4 hs2
  have H := Lib.hid (And.intro h (And.intro hi hv))
  clear h k1 k2 k3 k4 hsm hlen hs1 hs2 hi hv
  have hu := Try.underlying61
  go_enter Try.func54, Try.ntmps54
  go_wp2_with fail
  refine wp_region_held (S := fun w' => w'.cell? ⟨t, 0, none⟩ = some (.slice A K.length c) ∧ w'.cell? ⟨t, 1, none⟩ = some (.slice B V.length d) ∧ Below w.heap.size w w') (by kernel_rfl) ?_
  refine wpAnyH_take (i := 0) (v := .pointer (some ⟨t, 0, none⟩)) rfl (by kernel_rfl) (by kernel_rfl) (by kernel_rfl) (fun _ _ _ h => h) (Or.inl ⟨by rfl, fun w' hw' => by obtain ⟨s1, s2, _⟩ := hw'; go_simp⟩) ⟨c0, c1, below_drew1 (Below.refl _ _)⟩ ?_
  refine wpAnyH_take (i := 1) (v := .pointer (some ⟨t, 0, none⟩)) rfl (by kernel_rfl) (by kernel_rfl) (by kernel_rfl) (fun _ _ _ h => h) (Or.inl ⟨by rfl, fun w' hw' => by obtain ⟨s1, s2, _⟩ := hw'; go_simp⟩) ⟨c0, c1, below_drew1 (Below.refl _ _)⟩ ?_
  refine wpAnyH_take (i := 2) (v := .pointer (some ⟨t, 0, none⟩)) rfl (by kernel_rfl) (by kernel_rfl) (by kernel_rfl) (fun _ _ _ h => h) (Or.inl ⟨by rfl, fun w' hw' => by obtain ⟨s1, s2, _⟩ := hw'; go_simp⟩) ⟨c0, c1, below_drew1 (Below.refl _ _)⟩ ?_
  refine wpAnyH_take (i := 3) (v := .slice A K.length c) rfl (by kernel_rfl) (by kernel_rfl) (by kernel_rfl) (fun _ _ _ h => h) (Or.inl ⟨by rfl, fun w' hw' => by obtain ⟨s1, s2, _⟩ := hw'; go_simp⟩) ⟨c0, c1, below_drew1 (Below.refl _ _)⟩ ?_
  refine wpAnyH_take (i := 5) (v := .pointer (some ⟨t, 0, none⟩)) rfl (by kernel_rfl) (by kernel_rfl) (by kernel_rfl) (fun _ _ _ h => h) (Or.inl ⟨by rfl, fun w' hw' => by obtain ⟨s1, s2, _⟩ := hw'; go_simp⟩) ⟨c0, c1, below_drew1 (Below.refl _ _)⟩ ?_
  refine wpAnyH_take (i := 6) (v := .pointer (some ⟨t, 0, none⟩)) rfl (by kernel_rfl) (by kernel_rfl) (by kernel_rfl) (fun _ _ _ h => h) (Or.inl ⟨by rfl, fun w' hw' => by obtain ⟨s1, s2, _⟩ := hw'; go_simp⟩) ⟨c0, c1, below_drew1 (Below.refl _ _)⟩ ?_
  refine wpAnyH_take (i := 7) (v := .pointer (some ⟨t, 1, none⟩)) rfl (by kernel_rfl) (by kernel_rfl) (by kernel_rfl) (fun _ _ _ h => h) (Or.inl ⟨by rfl, fun w' hw' => by obtain ⟨s1, s2, _⟩ := hw'; go_simp⟩) ⟨c0, c1, below_drew1 (Below.refl _ _)⟩ ?_
  refine wpAnyH_take (i := 8) (v := .slice B V.length d) rfl (by kernel_rfl) (by kernel_rfl) (by kernel_rfl) (fun _ _ _ h => h) (Or.inl ⟨by rfl, fun w' hw' => by obtain ⟨s1, s2, _⟩ := hw'; go_simp⟩) ⟨c0, c1, below_drew1 (Below.refl _ _)⟩ ?_
  refine wpAnyH_step (i := 4) (by kernel_rfl) rfl (by rfl) ?_
  intro Kq hK
  go_simp
  refine (H.out.2.1 _ (below_drew1 (Below.refl _ _))).mono ?_
  rintro e w5 ⟨v2, rfl, hr5, hb5⟩
  have hb6 : Below w.heap.size w w5 := below_step (below_drew1 (Below.refl _ _)) hb5
  have c0' := (hb6.cell (World.block_lt_of_cell? w _ c0)).trans c0
  have c1' := (hb6.cell (World.block_lt_of_cell? w _ c1)).trans c1
  have H5 := Lib.hid (And.intro hr5 hb6)
  clear hr5 hb5
  refine hK _ _ ⟨c0', c1', hb6⟩ ?_
  clear hK Kq
  refine wpAnyH_step (i := 9) (by kernel_rfl) rfl (by rfl) ?_
  intro Kq hK
  go_simp
  refine (H.out.2.2 _ H5.out.2).mono ?_
  rintro e w7 ⟨v3, rfl, hr7, hb7⟩
  have hb8 : Below w.heap.size w w7 := below_step H5.out.2 hb7
  have c2' := (hb8.cell (World.block_lt_of_cell? w _ c0)).trans c0
  have c3' := (hb8.cell (World.block_lt_of_cell? w _ c1)).trans c1
  have H7 := Lib.hid (And.intro hr7 (And.intro hb8 hb7))
  clear hr7 hb7
  refine hK _ _ ⟨c2', c3', hb8⟩ ?_
  clear hK Kq
  refine wpAnyH_take (i := 10) (v := v2) rfl (by kernel_rfl) (by kernel_rfl) (by kernel_rfl) (fun _ _ _ h => h) (Or.inl ⟨by rfl, fun w' hw' => by go_simp⟩) ⟨c2', c3', hb8⟩ ?_
  refine wpAnyH_take (i := 11) (v := v3) rfl (by kernel_rfl) (by kernel_rfl) (by kernel_rfl) (fun _ _ _ h => h) (Or.inl ⟨by rfl, fun w' hw' => by go_simp⟩) ⟨c2', c3', hb8⟩ ?_
  refine wpAnyH_done (by kernel_rfl) ?_ _
  go_wp2_with fail
  go_ret2
  have k2 : w5.ownsRow w.heap.size 3 1 v2 K.length (intsV K) := Kd.own_of_R H5.out.1
  have k3 : w7.ownsRow w5.heap.size 9 1 v3 V.length (strsV V) := Kd.own_of_R H7.out.1
  exact ⟨v2, v3, rfl, row_move k2 fun g e => H7.out.2.2.block g (own_lt k2 e), rown_lower k3 H5.out.2.size, H7.out.2.1⟩
end Go.Proofs.Ytihjpbalkjhjbaa
namespace Go.Proofs.Ytihjpbalkjhjbaa
open Go.RowKit Go.MapKept Go.MuLone
/-- what Snapshot leaves -/
def SnapPost (w w' : World) (e : Ending) (tb : Nat) (lab : TLab) (T : Int → Option ByteArray) (L : List (Int × ByteArray)) : Prop :=
  ∃ v1 v2, e = .returned (.tuple #[v1, v2]) ∧ KRow w w' v1 (L.map (·.1)) ∧ SRow w w' v2 (L.map (·.2)) ∧ TabAt w' tb lab T ∧ Only w w' fun b => b = tb
theorem TabIs.lk_congr {lk lk' : Nat → Int} {w : World} {tb : Nat} {lab : TLab} {T : Int → Option ByteArray} {bm : Nat → Nat} {f : Nat → Int → Option Value} {cs : Array Value} (h : TabIs lk w tb lab T bm f cs) (he : ∀ i, i < 8 → lk i = lk' i) : TabIs lk' w tb lab T bm f cs :=
  ⟨h.self, fun i hi => (he i hi) ▸ h.lock i hi, h.mapc, h.lself, h.maps, h.lmap, h.ents, h.old⟩
/-- the locks of the first i stripes stand at x, the others at y -/
def LkUpto (x y : Int) (w wr : World) (tb : Nat) (lab : TLab) (T : Int → Option ByteArray) (bm : Nat → Nat) (f : Nat → Int → Option Value) (i : Nat) : Prop :=
  (∃ cs, TabIs (fun j => if j < i then x else y) wr tb lab T bm f cs) ∧ Only w wr fun b => b = tb
theorem LkUpto.step {x y : Int} {w wr : World} {tb : Nat} {lab : TLab} {T : Int → Option ByteArray} {bm : Nat → Nat} {f : Nat → Int → Option Value} {i : Nat} (h : LkUpto x y w wr tb lab T bm f i) (hi : i < 8) :
    LkUpto x y w (wr.setCell ⟨tb, i * 3, none⟩ (.int .i32 x)) tb lab T bm f (i + 1) := by
  obtain ⟨⟨cs, h⟩, ho⟩ := h
  refine ⟨⟨_, (h.locked hi x).lk_congr fun j hj => ?_⟩, ho.setCell (.inl rfl) _⟩
  by_cases h1 : j = i
  · subst h1; simp
  · by_cases h2 : j < i
    · rw [if_neg h1, if_pos h2, if_pos (by omega)]
    · rw [if_neg h1, if_neg h2, if_neg (by omega)]
theorem LkUpto.at {x y : Int} {w wr : World} {tb : Nat} {lab : TLab} {T : Int → Option ByteArray} {bm : Nat → Nat} {f : Nat → Int → Option Value} {i : Nat} (h : LkUpto x y w wr tb lab T bm f i) (hi : i < 8) :
    wr.cell? ⟨tb, i * 3, none⟩ = some (.int .i32 y) ∧ wr.frozen? ⟨tb, i * 3, none⟩ = false := by
  obtain ⟨⟨cs, h⟩, ho⟩ := h
  have := h.lock i hi
  rw [if_neg (Nat.lt_irrefl i)] at this
  exact ⟨blk_cell h.self this, blk_frozen h.self _⟩
set_option maxRecDepth 100000 in
set_option maxHeartbeats 2000000 in
theorem tsnapshot {w : World} {tb : Nat} {lab : TLab} {T : Int → Option ByteArray} (h : TabAt w tb lab T)
    (L : List (Int × ByteArray)) (hr : (L.map (·.1)).Pairwise (· < ·)) (hT : ∀ k, k ∈ L.map (·.1) ↔ T k ≠ none) (hV : ∀ x ∈ L, T x.1 = some x.2) (hlen : L.length ≤ 16777216) :
    Calls Try.prog 9 #[.pointer (some ⟨tb, 0, none⟩)] w fun e w' => SnapPost w w' e tb lab T L := by
  obtain ⟨bm, f, cs, h⟩ := h
  have htb := blk_lt h.self
  have H0 : LkUpto 1 0 w w tb lab T bm f 0 := ⟨⟨cs, h.lk_congr fun j hj => by simp⟩, Only.refl _ _⟩
  have H := Lib.hid H0
  have HA := Lib.hid (fun W (hW : LkUpto 1 0 w W tb lab T bm f 8) => let ⟨⟨cs, q⟩, _⟩ := hW; all_walk q L hr hT hV hlen)
  have HLK := Lib.hid (fun (i : Nat) W (h0 : W.cell? ⟨tb, i * 3, none⟩ = some (.int .i32 0)) (hz : W.frozen? ⟨tb, i * 3, none⟩ = false) => lock_free muLib ⟨tb, i * 3, none⟩ W h0 hz)
  have HUN := Lib.hid (fun (i : Nat) W (h0 : W.cell? ⟨tb, i * 3, none⟩ = some (.int .i32 1)) (hz : W.frozen? ⟨tb, i * 3, none⟩ = false) => unlock_held muLib ⟨tb, i * 3, none⟩ W h0 hz)
  clear h H0 hr hT hV hlen
  go_enter Try.func9, Try.ntmps9
  go_wp2_with fail
  go_loopw [10] (fun s10 wr => ∃ i : Nat, i ≤ 8 ∧ s10 = .int .i64 i ∧ LkUpto 1 0 w wr tb lab T bm f i) (fun s10 _ => 8 - (intOf s10).toNat)
  case atStart => exact ⟨0, Nat.zero_le _, rfl, H.out⟩
  case round =>
    obtain ⟨i, hi, rfl, hk⟩ := hrel
    have HK := Lib.hid hk
    have htb2 : tb < wr.heap.size := Nat.lt_of_lt_of_le htb hk.2.size
    by_cases hlt : i < 8
    · obtain ⟨c0, z0⟩ := hk.at hlt
      have hiI : (i : Int) < 8 := by omega
      have hi0 : (0 : Int) ≤ (i : Int) := by omega
      have hiD : decide ((i : Int) < 8) = true := by simp; omega
      have HC := Lib.hid (HLK.out i wr c0 z0)
      clear hk c0 z0
      go_wp2_with fail
      refine HC.out.mono ?_
      clear HC
      rintro e W1 ⟨rfl, hW1⟩
      have hs := HK.out.step hlt
      rw [← hW1] at hs
      have HS := Lib.hid hs
      clear hs hW1
      go_wp2_with fail
      go_roundw
      case rel => exact ⟨i + 1, by omega, by go_num, HS.out⟩
      case measure => simp [intOf]; omega
    · obtain rfl : i = 8 := by omega
      have HC := Lib.hid (HA.out wr hk)
      obtain ⟨wo, rfl⟩ : ∃ wo, wo = wr := ⟨_, rfl⟩
      clear hk
      go_wp2_with fail
      refine HC.out.mono ?_
      clear HC
      rintro e w2 ⟨v1, v2, rfl, k1, k2, hf⟩
      have hu : LkUpto 0 1 w2 w2 tb lab T bm f 0 := by
        obtain ⟨⟨cs1, q⟩, _⟩ := HK.out
        exact ⟨⟨cs1, (q.fresh hf).lk_congr fun j hj => by rw [if_pos hj]; simp⟩, Only.refl _ _⟩
      have hsz2 : tb < w2.heap.size := Nat.lt_of_lt_of_le htb2 hf.size
      obtain ⟨A, C, rfl⟩ := own_slice k1
      obtain ⟨B, D, rfl⟩ := own_slice k2
      have H2 := Lib.hid (And.intro k1 (And.intro k2 (And.intro hf hu)))
      clear k1 k2 hf hu
      go_wp2_with fail
      go_loopw [26] (fun s26 wr => ∃ i : Nat, i ≤ 8 ∧ s26 = .int .i64 i ∧ LkUpto 0 1 w2 wr tb lab T bm f i) (fun s26 _ => 8 - (intOf s26).toNat)
      case atStart => exact ⟨0, Nat.zero_le _, rfl, H2.out.2.2.2⟩
      case round =>
        obtain ⟨i, hi, rfl, hk⟩ := hrel
        have HK2 := Lib.hid hk
        have htb3 : tb < wr.heap.size := Nat.lt_of_lt_of_le hsz2 hk.2.size
        by_cases hlt : i < 8
        · obtain ⟨c0, z0⟩ := hk.at hlt
          have hiI : (i : Int) < 8 := by omega
          have hi0 : (0 : Int) ≤ (i : Int) := by omega
          have hiD : decide ((i : Int) < 8) = true := by simp; omega
          have HC := Lib.hid (HUN.out i wr c0 z0)
          clear hk c0 z0
          go_wp2_with fail
          refine HC.out.mono ?_
          clear HC
          rintro e W1 ⟨rfl, hW1⟩
          have hs := HK2.out.step hlt
          rw [← hW1] at hs
          have HS := Lib.hid hs
          clear hs hW1
          go_wp2_with fail
          go_roundw
          case rel => exact ⟨i + 1, by omega, by go_num, HS.out⟩
          case measure => simp [intOf]; omega
        · obtain rfl : i = 8 := by omega
          clear hk
          go_wp2_with fail
          go_ret2
          obtain ⟨k1, k2, hf, _⟩ := H2.out
          obtain ⟨⟨cs2, q2⟩, ho2⟩ := HK2.out
          have hwo := HK.out.2
          have r1 : KRow w _ _ _ := rown_lower (ho2.row k1 (by intro g hg e; have := (k1.lt g hg).1; have := hwo.size; omega)) hwo.size
          have r2 : SRow w _ _ _ := rown_lower (ho2.row k2 (by intro g hg e; have := (k2.lt g hg).1; have := hwo.size; omega)) hwo.size
          exact ⟨_, _, by simp [List.length_map], r1, r2, ⟨_, _, _, q2.lk_congr fun j hj => by rw [if_pos hj]⟩, (hwo.trans hf fun b q => q.elim).trans' ho2⟩
end Go.Proofs.Ytihjpbalkjhjbaa
namespace Go.Proofs.Ytihjpbalkjhjbaa
open Go.RowKit Go.MapKept Go.MuLone Go.Proofs.YtihjpbalkjhjbaaW.PrintWords
/-! #### the play -/
structure PCl where
  ops : List POp
  begun : Bool
  lockd : Nat
  reply : Option PRep
structure PSt where
  cls : List PCl
  lk : Nat → Bool
  L : List (Int × ByteArray)
  hist : List PMo
/-- a key's value in a rising list -/
def lookL (L : List (Int × ByteArray)) (k : Int) : Option ByteArray := (L.find? fun x => x.1 == k).map (·.2)
/-- a key more -/
def putL (k : Int) (s : ByteArray) : List (Int × ByteArray) → List (Int × ByteArray)
  | [] => [(k, s)]
  | x :: L => if k < x.1 then (k, s) :: x :: L else x :: putL k s L
def placeN (k : Int) : Nat := (k % 8).toNat
/-- can a client go on? -/
def canB (S : PSt) (c : PCl) : Bool :=
  match c.ops with
  | [] => false
  | o :: _ => if c.begun = false ∨ c.reply.isSome = true then true else if o.f0 = 3 then decide (c.lockd = 8) || !S.lk c.lockd else !S.lk (placeN o.f1)
/-- the answer to a call -/
def repOf (L : List (Int × ByteArray)) (o : POp) : PRep :=
  if o.f0 = 1 then ⟨(lookL L o.f1).isNone, ⟨#[]⟩, [], []⟩
  else if o.f0 = 2 then ⟨(lookL L o.f1).isSome, (lookL L o.f1).getD ⟨#[]⟩, [], []⟩
  else ⟨true, ⟨#[]⟩, L.map (·.1), L.map (·.2)⟩
def tabOf (L : List (Int × ByteArray)) (o : POp) : List (Int × ByteArray) := if o.f0 = 1 ∧ (lookL L o.f1).isNone then putL o.f1 o.f2 L else L
def effectP (S : PSt) (n : Nat) (c : PCl) (o : POp) : PSt :=
  { S with
    cls := S.cls.set n { c with reply := some (repOf S.L o), lockd := if o.f0 = 1 ∨ o.f0 = 2 then c.lockd else 0 }
    lk := if o.f0 = 1 ∨ o.f0 = 2 then S.lk else fun _ => false
    L := tabOf S.L o }
def stepP (S : PSt) (n : Nat) (c : PCl) (o : POp) (rest : List POp) : PSt :=
  if c.begun = false then { S with cls := S.cls.set n { c with begun := true }, hist := S.hist ++ [⟨n, true, o, zRep⟩] }
  else match c.reply with
    | some r => { S with cls := S.cls.set n { c with ops := rest, begun := false, reply := none }, hist := S.hist ++ [⟨n, false, o, r⟩] }
    | none => if o.f0 = 3 ∧ c.lockd < 8 then { S with cls := S.cls.set n { c with lockd := c.lockd + 1 }, lk := fun j => if j = c.lockd then true else S.lk j }
      else effectP S n c o
/-! #### in memory -/
/-- calls in a row of their own, or a part of it -/
def OpsAt (w : World) (v : Value) (ops : List POp) : Prop :=
  (v = .slice none 0 0 ∧ ops = []) ∨
  ∃ ob off C cells, v = .slice (some ⟨ob, off, none⟩) ops.length C ∧ ops.length ≤ C ∧ C ≤ 9223372036854775807 ∧ w.heap[ob]? = some (.cells cells 23 (0, 0)) ∧
    ∀ j o, ops[j]? = some o → cells[off + j * 3]? = some (.int .i64 o.f0) ∧ cells[off + j * 3 + 1]? = some (.int .i64 o.f1) ∧ cells[off + j * 3 + 2]? = some (.string o.f2)
abbrev IR (w : World) (base : Nat) (v : Value) (l : List Int) : Prop := w.ownsRow base 3 1 v l.length (intsV l)
abbrev SR (w : World) (base : Nat) (v : Value) (l : List ByteArray) : Prop := w.ownsRow base 9 1 v l.length (strsV l)
def RepIs (w : World) (base : Nat) (v2 v3 : Value) : Option PRep → Value → Prop
  | none, vr => vr = .pointer none
  | some r, vr => ∃ rb, vr = .pointer (some ⟨rb, 0, none⟩) ∧ w.heap[rb]? = some (.cells #[.bool r.f0, .string r.f1, v2, v3] 50 (0, 0)) ∧ IR w base v2 r.f2 ∧ SR w base v3 r.f3
structure ClIs (w : World) (base cb : Nat) (c : PCl) (vo vr v2 v3 : Value) : Prop where
  blk : w.heap[cb]? = some (.cells #[vo, .bool c.begun, .int .i64 c.lockd, vr] 100 (0, 0))
  ops : OpsAt w vo c.ops
  rep : RepIs w base v2 v3 c.reply vr
  small : c.lockd ≤ 8
def moV (m : PMo) (v7 v8 : Value) : List Value := [.int .i64 m.f0, .bool m.f1, .int .i64 m.f2.f0, .int .i64 m.f2.f1, .string m.f2.f2, .bool m.f3.f0, .string m.f3.f1, v7, v8]
def MoIs (w : World) (base : Nat) (m : PMo) (r : List Value) : Prop := ∃ v7 v8, r = moV m v7 v8 ∧ IR w base v7 m.f3.f2 ∧ SR w base v8 m.f3.f3
def stageC (tb : Nat) (lk : Nat → Bool) (vc vh : Value) : Array Value := #[.pointer (some ⟨tb, 0, none⟩), .bool (lk 0), .bool (lk 1), .bool (lk 2), .bool (lk 3), .bool (lk 4), .bool (lk 5), .bool (lk 6), .bool (lk 7), vc, vh]
/-- where its parts lie -/
structure Gh where
  tb : Nat
  lab : TLab
  bm : Nat → Nat
  f : Nat → Int → Option Value
  cs : Array Value
  vc : Value
  vh : Value
  cb : Nat → Nat
  vo : Nat → Value
  vr : Nat → Value
  v2 : Nat → Value
  v3 : Nat → Value
  rows : List (List Value)
abbrev OutRowT (w : World) (base : Nat) (v : Value) (rows : List (List Value)) : Prop := OwnRow (fun (r : List Value) cs => cs = r) 52 9 w base v rows
structure StIs (w : World) (base sb : Nat) (S : PSt) (g : Gh) : Prop where
  blk : w.heap[sb]? = some (.cells (stageC g.tb S.lk g.vc g.vh) 96 (0, 0))
  tab : TabIs (fun _ => 0) w g.tb g.lab (lookL S.L) g.bm g.f g.cs
  rising : (S.L.map (·.1)).Pairwise (· < ·)
  crow : w.ownsRow base 97 1 g.vc S.cls.length ((List.range S.cls.length).map fun i => .pointer (some ⟨g.cb i, 0, none⟩))
  cl : ∀ (i : Nat) (c : PCl), S.cls[i]? = some c → ClIs w base (g.cb i) c (g.vo i) (g.vr i) (g.v2 i) (g.v3 i)
  cinj : ∀ i j, i < S.cls.length → j < S.cls.length → g.cb i = g.cb j → i = j
  hrow : OutRowT w base g.vh g.rows
  hlen : g.rows.length = S.hist.length
  hmem : ∀ (j : Nat) (m : PMo) (r : List Value), S.hist[j]? = some m → g.rows[j]? = some r → MoIs w base m r
  many : S.cls.length ≤ 64
  outS : base ≤ sb
  outT : ∀ b, g.lab b ≠ none → base ≤ b
  outC : ∀ i, i < S.cls.length → base ≤ g.cb i
section
variable {w : World} {base sb : Nat} {S : PSt} {g : Gh}
theorem StIs.lkc (h : StIs w base sb S g) {j : Nat} (hj : j < 8) : w.cell? ⟨sb, 1 + j, none⟩ = some (.bool (S.lk j)) := by
  refine blk_cell h.blk ?_
  rcases j with _ | _ | _ | _ | _ | _ | _ | _ | j
  all_goals first | rfl | omega
theorem ClIs.opcell {cb : Nat} {c : PCl} {vo vr v2 v3 : Value} (h : ClIs w base cb c vo vr v2 v3) {o : POp} {rest : List POp} (ho : c.ops = o :: rest) :
    ∃ ob off C, vo = .slice (some ⟨ob, off, none⟩) (rest.length + 1) C ∧ rest.length + 1 ≤ C ∧ C ≤ 9223372036854775807 ∧ w.cell? ⟨ob, off, none⟩ = some (.int .i64 o.f0) ∧ w.cell? ⟨ob, off + 1, none⟩ = some (.int .i64 o.f1) ∧ w.cell? ⟨ob, off + 2, none⟩ = some (.string o.f2) ∧
      ∃ cells, w.heap[ob]? = some (.cells cells 23 (0, 0)) := by
  rcases h.ops with ⟨_, q⟩ | ⟨ob, off, C, cells, rfl, h1, h2, h3, h4⟩
  · rw [ho] at q; cases q
  · rw [ho] at h1 h4 ⊢
    obtain ⟨k0, k1, k2⟩ := h4 0 o rfl
    exact ⟨ob, off, C, rfl, h1, h2, blk_cell h3 (by simpa using k0), blk_cell h3 (by simpa using k1), blk_cell h3 (by simpa using k2), cells, h3⟩
end
/-- blocks of cells of some types stay -/
def KeepT (w w' : World) (ts : Nat → Prop) : Prop := ∀ (b : Nat) (cells : Array Value) (t : TypeId), w.heap[b]? = some (.cells cells t (0, 0)) → ts t → w'.heap[b]? = w.heap[b]?
section
variable {w w1 w2 : World} {ts : Nat → Prop} {base : Nat}
theorem KeepT.refl (w : World) (ts : Nat → Prop) : KeepT w w ts := fun _ _ _ _ _ => rfl
theorem KeepT.trans (h : KeepT w w1 ts) (k : KeepT w1 w2 ts) : KeepT w w2 ts := fun b cells t hb ht => (k b cells t ((h b cells t hb ht).trans hb) ht).trans (h b cells t hb ht)
theorem KeepT.mono {ts' : Nat → Prop} (h : KeepT w w1 ts) (hs : ∀ t, ts' t → ts t) : KeepT w w1 ts' := fun b cells t hb ht => h b cells t hb (hs t ht)
theorem KeepT.only {P : Nat → Prop} (h : Only w w1 P) (hP : ∀ (b : Nat) (cells : Array Value) (t : TypeId), w.heap[b]? = some (.cells cells t (0, 0)) → ts t → ¬ P b) : KeepT w w1 ts := fun b cells t hb ht => h.block b (blk_lt hb) (hP b cells t hb ht)
theorem KeepT.fresh (h : Fresh w w1) : KeepT w w1 ts := KeepT.only h fun _ _ _ _ _ q => q
theorem KeepT.set {g : Nat} {cells0 : Array Value} {t0 : TypeId} (hg : w.heap[g]? = some (.cells cells0 t0 (0, 0))) (ht0 : ¬ ts t0) (i : Nat) (u : Value) : KeepT w (w.setCell ⟨g, i, none⟩ u) ts := fun b cells t hb ht => Below.heap_setCell w ⟨g, i, none⟩ u b (by
  rintro rfl
  rw [hg] at hb
  injection hb with hb
  injection hb with _ hb _
  exact ht0 (by rw [hb]; exact ht))
theorem OpsAt.keepT {v : Value} {ops : List POp} (h : OpsAt w v ops) (hk : KeepT w w1 ts) (ht : ts 23) : OpsAt w1 v ops := by
  rcases h with q | ⟨ob, off, C, cells, h1, h2, h3, h4, h5⟩
  · exact .inl q
  · exact .inr ⟨ob, off, C, cells, h1, h2, h3, (hk ob cells _ h4 ht).trans h4, h5⟩
theorem row_keepT {n : Nat} {e : TypeId} {v : Value} {xs : List Value} (h : w.ownsRow base e 1 v n xs) (hk : KeepT w w1 ts) (ht : ts e) : w1.ownsRow base e 1 v n xs :=
  row_move h fun g hg => by
    obtain ⟨cells, hc⟩ := own_cells h hg
    exact hk g cells _ hc ht
theorem RepIs.keepT {v2 v3 vr : Value} {r : Option PRep} (h : RepIs w base v2 v3 r vr) (hk : KeepT w w1 ts) (h1 : ts 50) (h2 : ts 3) (h3 : ts 9) : RepIs w1 base v2 v3 r vr := by
  cases r with
  | none => exact h
  | some r =>
    obtain ⟨rb, k1, k2, k3, k4⟩ := h
    exact ⟨rb, k1, (hk rb _ _ k2 h1).trans k2, row_keepT k3 hk h2, row_keepT k4 hk h3⟩
theorem MoIs.keepT {m : PMo} {r : List Value} (h : MoIs w base m r) (hk : KeepT w w1 ts) (h2 : ts 3) (h3 : ts 9) : MoIs w1 base m r := by
  obtain ⟨v7, v8, k1, k2, k3⟩ := h
  exact ⟨v7, v8, k1, row_keepT k2 hk h2, row_keepT k3 hk h3⟩
theorem OutRowT.keepT {v : Value} {rows : List (List Value)} (h : OutRowT w base v rows) (hk : KeepT w w1 ts) (ht : ts 52) : OutRowT w1 base v rows := by
  obtain ⟨inner, ho, hr⟩ := h
  refine ⟨inner, ⟨ho.1, ?_⟩, hr⟩
  rcases ho.2 with q | ⟨g, cap, cur, k1, k2, k3, k4⟩
  · exact .inl q
  · exact .inr ⟨g, cap, cur, k1, k2, (hk g cur _ k3 ht).trans k3, k4⟩
/-- the types whose blocks a step leaves, but for the history's row -/
def Quiet (t : Nat) : Prop := t ≠ 100 ∧ t ≠ 96 ∧ t ≠ 52
theorem quiet_of {t : Nat} (h1 : t ≠ 100) (h2 : t ≠ 96) (h3 : t ≠ 52) : Quiet t := ⟨h1, h2, h3⟩
end
theorem StIs.turn {w w' : World} {base sb : Nat} {S : PSt} {g g' : Gh} {n : Nat} {c' : PCl} {lk' : Nat → Bool} {L' : List (Int × ByteArray)} {hist' : List PMo} (h : StIs w base sb S g)
    (hk : KeepT w w' Quiet) (hcl : ∀ i, i < S.cls.length → i ≠ n → w'.heap[g.cb i]? = w.heap[g.cb i]?)
    (e1 : g'.vc = g.vc) (e2 : ∀ i, i ≠ n → g'.vo i = g.vo i ∧ g'.vr i = g.vr i ∧ g'.v2 i = g.v2 i ∧ g'.v3 i = g.v3 i) (e3 : g'.cb = g.cb)
    (hnew : ClIs w' base (g.cb n) c' (g'.vo n) (g'.vr n) (g'.v2 n) (g'.v3 n))
    (hblk : w'.heap[sb]? = some (.cells (stageC g'.tb lk' g.vc g'.vh) 96 (0, 0)))
    (htab : TabIs (fun _ => 0) w' g'.tb g'.lab (lookL L') g'.bm g'.f g'.cs) (hris : (L'.map (·.1)).Pairwise (· < ·)) (hout : ∀ b, g'.lab b ≠ none → base ≤ b)
    (hrow : OutRowT w' base g'.vh g'.rows) (hlen : g'.rows.length = hist'.length) (hmem : ∀ (j : Nat) (m : PMo) (r : List Value), hist'[j]? = some m → g'.rows[j]? = some r → MoIs w' base m r) :
    StIs w' base sb ⟨S.cls.set n c', lk', L', hist'⟩ g' := by
  have hl : (S.cls.set n c').length = S.cls.length := List.length_set
  refine ⟨by rw [e1]; exact hblk, htab, hris, ?_, ?_, ?_, hrow, hlen, hmem, by rw [hl]; exact h.many, h.outS, hout, fun i hi => by rw [e3]; exact h.outC i (by rw [← hl]; exact hi)⟩
  · show w'.ownsRow base _ 1 g'.vc (S.cls.set n c').length ((List.range (S.cls.set n c').length).map fun i => .pointer (some ⟨g'.cb i, 0, none⟩))
    rw [hl, e1, e3]
    exact row_keepT h.crow hk (quiet_of (by decide) (by decide) (by decide))
  · intro i d hd
    have hd' : (S.cls.set n c')[i]? = some d := hd
    rw [List.getElem?_set] at hd'
    by_cases e : n = i
    · subst e
      rw [if_pos rfl] at hd'
      split at hd'
      · injection hd' with hd'
        subst hd'
        rw [e3]
        exact hnew
      · cases hd'
    · rw [if_neg e] at hd'
      have hi : i < S.cls.length := (List.getElem?_eq_some_iff.1 hd').1
      have q := h.cl i d hd'
      obtain ⟨q1, q2, q3, q4⟩ := e2 i (fun x => e x.symm)
      rw [e3, q1, q2, q3, q4]
      exact ⟨(hcl i hi fun x => e x.symm).trans q.blk, q.ops.keepT hk (quiet_of (by decide) (by decide) (by decide)), q.rep.keepT hk (quiet_of (by decide) (by decide) (by decide)) (quiet_of (by decide) (by decide) (by decide)) (quiet_of (by decide) (by decide) (by decide)), q.small⟩
  · intro i j hi hj
    rw [e3]
    exact h.cinj i j (by rw [← hl]; exact hi) (by rw [← hl]; exact hj)
/-! #### the rising list -/
theorem lookL_mem {L : List (Int × ByteArray)} (hr : (L.map (·.1)).Pairwise (· < ·)) : ∀ x ∈ L, lookL L x.1 = some x.2 := by
  induction L with
  | nil => intro x hx; cases hx
  | cons y L ih =>
    simp only [List.map_cons, List.pairwise_cons] at hr
    intro x hx
    unfold lookL
    rw [List.find?_cons]
    by_cases e : y.1 = x.1
    · have e2 : (y.1 == x.1) = true := by simp [e]
      rw [e2]
      rcases List.mem_cons.1 hx with rfl | q
      · rfl
      · have := hr.1 x.1 (List.mem_map.2 ⟨x, q, rfl⟩)
        omega
    · have e2 : (y.1 == x.1) = false := by simp [e]
      rw [e2]
      rcases List.mem_cons.1 hx with rfl | q
      · exact absurd rfl e
      · exact ih hr.2 x q
theorem lookL_iff (L : List (Int × ByteArray)) (k : Int) : k ∈ L.map (·.1) ↔ lookL L k ≠ none := by
  unfold lookL
  rw [ne_eq, Option.map_eq_none_iff, List.find?_eq_none]
  simp only [List.mem_map, beq_iff_eq]
  constructor
  · rintro ⟨x, hx, rfl⟩ q
    exact q x hx rfl
  · intro q
    apply Classical.byContradiction
    intro q2
    exact q fun x hx e => q2 ⟨x, hx, e⟩
theorem lookL_put (k : Int) (s : ByteArray) : ∀ (L : List (Int × ByteArray)), lookL L k = none → ∀ j, lookL (putL k s L) j = if j = k then some s else lookL L j
  | [], _, j => by
    unfold lookL putL
    by_cases e : j = k
    · simp [e]
    · simp [e]
      exact fun x => e x.symm
  | x :: L, h, j => by
    have hx : x.1 ≠ k := fun e => by
      have : k ∈ (x :: L).map (·.1) := by simp [e]
      exact (lookL_iff _ _).1 this h
    have hL : lookL L k = none := by
      have e2 : (x.1 == k) = false := by simp [hx]
      unfold lookL at h
      rw [List.find?_cons, e2] at h
      exact h
    have ih := lookL_put k s L hL j
    unfold putL
    split
    · by_cases e : j = k
      · unfold lookL; simp [e]
      · rw [if_neg e]
        unfold lookL
        have e2 : (k == j) = false := by simp; exact fun x => e x.symm
        rw [List.find?_cons, e2]
    · unfold lookL at ih ⊢
      rw [List.find?_cons, List.find?_cons]
      by_cases e : x.1 = j
      · have e2 : (x.1 == j) = true := by simp [e]
        rw [e2, if_neg (by rw [← e]; exact hx)]
      · have e2 : (x.1 == j) = false := by simp [e]
        rw [e2]
        exact ih
theorem putL_mem {k : Int} {s : ByteArray} {j : Int} : ∀ {L : List (Int × ByteArray)}, j ∈ (putL k s L).map (·.1) → j = k ∨ j ∈ L.map (·.1)
  | [], h => by simp [putL] at h; exact .inl h
  | x :: L, h => by
    unfold putL at h
    split at h
    · simp only [List.map_cons, List.mem_cons] at h ⊢
      rcases h with h | h | h
      · exact .inl h
      · exact .inr (.inl h)
      · exact .inr (.inr h)
    · simp only [List.map_cons, List.mem_cons] at h ⊢
      rcases h with h | h
      · exact .inr (.inl h)
      · rcases putL_mem h with q | q
        · exact .inl q
        · exact .inr (.inr q)
theorem putL_rising {k : Int} {s : ByteArray} : ∀ {L : List (Int × ByteArray)}, (L.map (·.1)).Pairwise (· < ·) → k ∉ L.map (·.1) → ((putL k s L).map (·.1)).Pairwise (· < ·)
  | [], _, _ => by simp [putL]
  | x :: L, h, hk => by
    simp only [List.map_cons, List.pairwise_cons, List.mem_cons, not_or] at h hk
    unfold putL
    split
    · rename_i hlt
      simp only [List.map_cons, List.pairwise_cons, List.mem_cons]
      refine ⟨fun y hy => ?_, h⟩
      rcases hy with rfl | hy
      · exact hlt
      · exact Int.lt_trans hlt (h.1 y hy)
    · simp only [List.map_cons, List.pairwise_cons]
      refine ⟨fun y hy => ?_, putL_rising h.2 hk.2⟩
      rcases putL_mem hy with rfl | q
      · omega
      · exact h.1 y q
theorem putL_len (k : Int) (s : ByteArray) : ∀ (L : List (Int × ByteArray)), (putL k s L).length = L.length + 1
  | [] => rfl
  | x :: L => by
    unfold putL
    split
    · rfl
    · simp [putL_len k s L]
end Go.Proofs.Ytihjpbalkjhjbaa
namespace Go.Proofs.Ytihjpbalkjhjbaa
open Go.RowKit Go.MapKept Go.MuLone
set_option maxRecDepth 100000 in
set_option maxHeartbeats 2000000 in
theorem can_walk {w : World} {base sb : Nat} {S : PSt} {g : Gh} (h : StIs w base sb S g) {n : Nat} {c : PCl} (hn : S.cls[n]? = some c) :
    Calls Try.prog 61 #[.pointer (some ⟨sb, 0, none⟩), .pointer (some ⟨g.cb n, 0, none⟩)] w fun e w' => e = .returned (.bool (canB S c)) ∧ ∃ m, w' = w.drewN m := by
  have hc := h.cl n c hn
  obtain ⟨cb, hcb⟩ : ∃ cb, cb = g.cb n := ⟨_, rfl⟩
  obtain ⟨vo, hvo⟩ : ∃ vo, vo = g.vo n := ⟨_, rfl⟩
  obtain ⟨vr, hvr⟩ : ∃ vr, vr = g.vr n := ⟨_, rfl⟩
  rw [← hcb, ← hvo, ← hvr] at hc
  rw [← hcb]
  have c0 : w.cell? ⟨cb, 0, none⟩ = some vo := blk_cell hc.blk rfl
  have c1 : w.cell? ⟨cb, 1, none⟩ = some (.bool c.begun) := blk_cell hc.blk rfl
  have c2 : w.cell? ⟨cb, 2, none⟩ = some (.int .i64 c.lockd) := blk_cell hc.blk rfl
  have c3 : w.cell? ⟨cb, 3, none⟩ = some vr := blk_cell hc.blk rfl
  have hrep := hc.rep
  have hsm := hc.small
  have HS := Lib.hid h
  clear hcb hvo hvr h
  unfold canB
  cases ho : c.ops with
  | nil =>
    rcases hc.ops with ⟨rfl, _⟩ | ⟨ob, off, C, cells, rfl, h1, h2, h3, h4⟩
    · clear hc hrep
      go_enter Try.func61, Try.ntmps61
      go_wp2_with fail
      go_ret
      exact ⟨rfl, 0, rfl⟩
    · rw [ho] at c0
      simp only [List.length_nil] at c0
      clear hc hrep h1 h2 h3 h4
      go_enter Try.func61, Try.ntmps61
      go_wp2_with fail
      go_ret
      exact ⟨rfl, 0, rfl⟩
  | cons o rest =>
    obtain ⟨ob, off, C, rfl, hC1, hC2, k0, k1, k2, _⟩ := hc.opcell ho
    obtain ⟨m, hm⟩ : ∃ m, m = rest.length + 1 := ⟨_, rfl⟩
    rw [← hm] at c0 hC1
    have hr1 : (0 : Int) < (m : Int) := by omega
    have hr0 : (m : Int) ≠ 0 := by omega
    have hrD : ((m : Int) == 0) = false := by simp; omega
    have hrm : m ≤ 9223372036854775807 := by omega
    have hrn : ¬ m = 0 := by omega
    clear hm
    obtain ⟨bg, hbg⟩ : ∃ bg, bg = c.begun := ⟨_, rfl⟩
    obtain ⟨rp, hrp⟩ : ∃ rp, rp = c.reply := ⟨_, rfl⟩
    obtain ⟨ld, hld⟩ : ∃ ld, ld = c.lockd := ⟨_, rfl⟩
    rw [← hbg] at c1
    rw [← hrp] at hrep
    rw [← hld] at c2 hsm
    simp only [← hbg, ← hrp, ← hld]
    clear hc hbg hrp hld ho hn
    cases bg with
    | false =>
      clear hrep
      rw [if_pos (.inl rfl)]
      go_enter Try.func61, Try.ntmps61
      go_wp2_with fail
      go_ret
      exact ⟨rfl, 0, rfl⟩
    | true =>
      cases rp with
      | some r =>
        obtain ⟨rb, rfl, _⟩ := hrep
        rw [if_pos (.inr rfl)]
        go_enter Try.func61, Try.ntmps61
        go_wp2_with fail
        go_ret
        exact ⟨rfl, 0, rfl⟩
      | none =>
        obtain rfl : vr = .pointer none := hrep
        rw [if_neg (by simp)]
        by_cases h3 : o.f0 = 3
        · rw [if_pos h3]
          have h3D : (o.f0 == 3) = true := by simp [h3]
          by_cases h8 : ld = 8
          · subst h8
            rw [h3] at k0
            go_enter Try.func61, Try.ntmps61
            go_wp2_with fail
            go_quiet (fail)
            go_wp2_with fail
            go_ret
            exact ⟨by simp, _, rfl⟩
          · have hl := HS.out.lkc (j := ld) (by omega)
            rw [h3] at k0
            have l8 : ((ld : Int) == 8) = false := by simp; omega
            have l0 : (0 : Int) ≤ (ld : Int) := by omega
            have l1 : (ld : Int) < 8 := by omega
            go_enter Try.func61, Try.ntmps61
            go_wp2_with fail
            go_quiet (fail)
            go_wp2_with fail
            go_ret
            exact ⟨by simp [h8], _, rfl⟩
        · rw [if_neg h3]
          have h3D : (o.f0 == 3) = false := by simp [h3]
          obtain ⟨p, hp⟩ : ∃ p : Nat, p = placeN o.f1 := ⟨_, rfl⟩
          have hp8 : p < 8 := by rw [hp]; unfold placeN; omega
          have hl := HS.out.lkc hp8
          have HPL := Lib.hid (fun W => place_any W o.f1 p (by rw [hp]; unfold placeN; omega))
          have l0 : (0 : Int) ≤ (p : Int) := by omega
          have l1 : (p : Int) < 8 := by omega
          rw [← hp]
          clear hp
          go_enter Try.func61, Try.ntmps61
          go_wp2_with fail
          go_quiet (refine Calls.quiet_of_same (HPL.out _))
          go_wp2_with fail
          go_ret
          exact ⟨by simp, _, rfl⟩
end Go.Proofs.Ytihjpbalkjhjbaa
namespace Go.Proofs.Ytihjpbalkjhjbaa
open Go.RowKit Go.MapKept Go.MuLone Go.Proofs.YtihjpbalkjhjbaaW.PrintWords
theorem run_clear8 (W : World) (sb tb : Nat) (lk : Nat → Bool) (vc vh : Value) (h : W.heap[sb]? = some (.cells (stageC tb lk vc vh) 96 (0, 0))) (ty : TypeId) :
    ∃ W', (Builtin.clear_ #[152] ty #[.slice (some ⟨sb, 1, none⟩) 8 8]).run Try.prog W = .ok (.tuple #[]) W' ∧ W'.heap[sb]? = some (.cells (stageC tb (fun _ => false) vc vh) 96 (0, 0)) ∧ Only W W' fun b => b = sb := by
  have hs : (storeCells ⟨sb, 1, none⟩ [.bool false, .bool false, .bool false, .bool false, .bool false, .bool false, .bool false, .bool false]).run Try.prog W = .ok () (W.setRow sb (stageC tb (fun _ => false) vc vh)) := run_storeCells_at (P := Try.prog) sb 1 96 [.bool false, .bool false, .bool false, .bool false, .bool false, .bool false, .bool false, .bool false] 0 (stageC tb lk vc vh) W h (by simp [stageC]) (by simp [Value.oneCell'])
  have hu := Try.underlying152
  have hz : (zeroValue 4).run Try.prog W = .ok (.bool false) W := by kernel_rfl
  have hz2 : (Builtin.zeroCells (Value.bool false).cells 8).toList = [.bool false, .bool false, .bool false, .bool false, .bool false, .bool false, .bool false, .bool false] := by kernel_rfl
  refine ⟨_, ?_, setRow_heap W sb _ _ _ _ h, rfl, rfl, rfl, by simp, fun b _ hb => setRow_other W sb b _ hb⟩
  simp [Builtin.clear_, Sem.run_bind, run_underlying hu, hz, hz2, hs, Result.andThen]
theorem EntIs.keepT {w w1 : World} {lab : TLab} {k : Int} {a : Option Value} {b : Option ByteArray} {ts : Nat → Prop} (h : EntIs w lab k a b) (hk : KeepT w w1 ts) (ht : ts 127) : EntIs w1 lab k a b := by
  unfold EntIs at h ⊢
  split at h
  · trivial
  · obtain ⟨eb, h1, h2, h3⟩ := h
    exact ⟨eb, h1, (hk eb _ _ h2 ht).trans h2, h3⟩
  · exact h
theorem TabIs.keepT {lk : Nat → Int} {w w1 : World} {tb : Nat} {lab : TLab} {T : Int → Option ByteArray} {bm : Nat → Nat} {f : Nat → Int → Option Value} {cs : Array Value} {ts : Nat → Prop} (h : TabIs lk w tb lab T bm f cs) (hk : KeepT w w1 ts) (h1 : ts 89) (h2 : ts 127)
    (hm : ∀ i, i < 8 → w1.heap[bm i]? = w.heap[bm i]?) (hs : w.heap.size ≤ w1.heap.size) : TabIs lk w1 tb lab T bm f cs :=
  ⟨(hk tb _ _ h.self h1).trans h.self, h.lock, h.mapc, h.lself, fun i hi => (h.maps i hi).of_block (hm i hi), h.lmap, fun i hi k => (h.ents i hi k).keepT hk h2, fun b hb => Nat.lt_of_lt_of_le (h.old b hb) hs⟩
theorem TabIs.set {lk : Nat → Int} {w : World} {tb : Nat} {lab : TLab} {T : Int → Option ByteArray} {bm : Nat → Nat} {f : Nat → Int → Option Value} {cs : Array Value} (h : TabIs lk w tb lab T bm f cs) {g : Nat} {cells : Array Value} {t : TypeId} (hg : w.heap[g]? = some (.cells cells t (0, 0))) (h1 : t ≠ 89) (h2 : t ≠ 127) (i : Nat) (u : Value) :
    TabIs lk (w.setCell ⟨g, i, none⟩ u) tb lab T bm f cs :=
  h.keepT (ts := fun x => x ≠ t) (KeepT.set hg (fun q => q rfl) i u) h1.symm h2.symm (fun j hj => Below.heap_setCell w ⟨g, i, none⟩ u _ (by
    rintro rfl
    obtain ⟨es, ck, q, _⟩ := h.maps j hj
    rw [hg] at q
    cases q)) (by simp [World.setCell])
theorem StIs.base_le {w : World} {base sb : Nat} {S : PSt} {g : Gh} (h : StIs w base sb S g) : base ≤ w.heap.size := by
  have := h.outS
  have := blk_lt h.blk
  omega
theorem IR.fresh {w w1 : World} {base : Nat} {v : Value} {l : List Int} (h : IR w base v l) (hf : Fresh w w1) : IR w1 base v l := row_fresh h hf
/-- behind a call on the table: the answer in a box of its own -/
theorem StIs.eff {w w1 : World} {base sb : Nat} {S : PSt} {g : Gh} (h : StIs w base sb S g) {n : Nat} {c : PCl} (hn : S.cls[n]? = some c)
    {lab' : TLab} {bm' : Nat → Nat} {f' : Nat → Int → Option Value} {cs' : Array Value} {L' : List (Int × ByteArray)} {r : PRep} {v2 v3 : Value}
    (hk : KeepT w w1 fun _ => True) (htab : TabIs (fun _ => 0) w1 g.tb lab' (lookL L') bm' f' cs') (hris : (L'.map (·.1)).Pairwise (· < ·)) (hout : ∀ b, lab' b ≠ none → base ≤ b)
    (h2 : IR w1 base v2 r.f2) (h3 : SR w1 base v3 r.f3) :
    StIs ((w1.alloc (.cells #[.bool r.f0, .string r.f1, v2, v3] 50)).setCell ⟨g.cb n, 3, none⟩ (.pointer (some ⟨w1.heap.size, 0, none⟩))) base sb ⟨S.cls.set n { c with reply := some r }, S.lk, L', S.hist⟩
      { g with lab := lab', bm := bm', f := f', cs := cs', vr := fun i => if i = n then .pointer (some ⟨w1.heap.size, 0, none⟩) else g.vr i, v2 := fun i => if i = n then v2 else g.v2 i, v3 := fun i => if i = n then v3 else g.v3 i } := by
  have hni : n < S.cls.length := (List.getElem?_eq_some_iff.1 hn).1
  have hc := h.cl n c hn
  have b1 : w1.heap[g.cb n]? = _ := (hk _ _ _ hc.blk trivial).trans hc.blk
  have hal : ∀ b x, w1.heap[b]? = some x → (w1.alloc (.cells #[.bool r.f0, .string r.f1, v2, v3] 50)).heap[b]? = some x := fun b x q => blk_alloc q _
  have b2 := hal _ _ b1
  have hk2 : KeepT w ((w1.alloc (.cells #[.bool r.f0, .string r.f1, v2, v3] 50)).setCell ⟨g.cb n, 3, none⟩ (.pointer (some ⟨w1.heap.size, 0, none⟩))) Quiet :=
    ((hk.mono fun _ _ => trivial).trans (KeepT.fresh (alloc_only _ _))).trans (KeepT.set b2 (fun q => q.1 rfl) 3 _)
  have hk3 : KeepT w1 ((w1.alloc (.cells #[.bool r.f0, .string r.f1, v2, v3] 50)).setCell ⟨g.cb n, 3, none⟩ (.pointer (some ⟨w1.heap.size, 0, none⟩))) Quiet :=
    (KeepT.fresh (alloc_only _ _)).trans (KeepT.set b2 (fun q => q.1 rfl) 3 _)
  have hfar : ∀ b x, b ≠ g.cb n → w1.heap[b]? = some x → ((w1.alloc (.cells #[.bool r.f0, .string r.f1, v2, v3] 50)).setCell ⟨g.cb n, 3, none⟩ (.pointer (some ⟨w1.heap.size, 0, none⟩))).heap[b]? = some x := fun b x hb q => (Below.heap_setCell _ ⟨g.cb n, 3, none⟩ _ b hb).trans (hal b x q)
  have hcb := blk_lt b1
  refine h.turn hk2 (fun i hi hin => ?_) rfl (fun i hi => by simp [hi]) rfl ⟨?_, ?_, ?_, hc.small⟩ ?_ ((htab.fresh (alloc_only _ _)).set b2 (by decide) (by decide) _ _) hris hout ?_ h.hlen (fun j m q h4 h5 => (h.hmem j m q h4 h5).keepT hk2 (quiet_of (by decide) (by decide) (by decide)) (quiet_of (by decide) (by decide) (by decide)))
  · obtain ⟨d, hd⟩ : ∃ d, S.cls[i]? = some d := ⟨S.cls[i], List.getElem?_eq_getElem hi⟩
    have hb := (h.cl i d hd).blk
    rw [hb]
    exact hfar _ _ (fun e => hin (h.cinj i n hi hni e)) ((hk _ _ _ hb trivial).trans hb)
  · simp only [if_true]
    exact blk_set b2 3 _
  · exact hc.ops.keepT hk2 (quiet_of (by decide) (by decide) (by decide))
  · simp only [if_true]
    refine ⟨w1.heap.size, rfl, (Below.heap_setCell _ ⟨g.cb n, 3, none⟩ _ _ (fun e => ?_)).trans (new_blk _), row_keepT h2 hk3 (quiet_of (by decide) (by decide) (by decide)), row_keepT h3 hk3 (quiet_of (by decide) (by decide) (by decide))⟩
    have e2 : w1.heap.size = g.cb n := e
    omega
  · refine hfar _ _ (fun e => ?_) ((hk _ _ _ h.blk trivial).trans h.blk)
    have := h.blk
    rw [e, hc.blk] at this
    injection this with this
    injection this with _ this _
    exact absurd this (by decide)
  · have hr1 : OutRowT w1 base g.vh g.rows := OutRowT.keepT h.hrow hk trivial
    have hr2 : OutRowT (w1.alloc (.cells #[.bool r.f0, .string r.f1, v2, v3] 50)) base g.vh g.rows := OutRowT.keepT hr1 (KeepT.fresh (ts := fun _ => True) (alloc_only _ _)) trivial
    exact OutRowT.keepT hr2 (KeepT.set (ts := fun t => t = 52) b2 (by decide) 3 _) rfl
def EffPost (w w' : World) (e : Ending) (base sb : Nat) (S' : PSt) (g : Gh) : Prop :=
  e = .returned (.tuple #[]) ∧ ∃ g', StIs w' base sb S' g' ∧ g'.cb = g.cb ∧ g'.rows = g.rows ∧ Only w w' fun b => base ≤ b
theorem set_only {w w1 : World} {base : Nat} (h : Only w w1 fun b => base ≤ b) (o : Obj) {p : Addr} (hp : base ≤ p.block) (u : Value) : Only w ((w1.setCell p u).alloc o) fun b => base ≤ b := (h.setCell (.inl hp) u).alloc o
theorem swap_set (w : World) (o : Obj) (n i : Nat) (v : Value) (hn : n < w.heap.size) : (w.setCell ⟨n, i, none⟩ v).alloc o = (w.alloc o).setCell ⟨n, i, none⟩ v := (World.setCell_alloc_past o n i v hn).symm
/-- behind publish -/
theorem StIs.pubNew {w W w1 : World} {base sb : Nat} {S : PSt} {g : Gh} (h : StIs w base sb S g) (hW : Fresh w W) {k : Int} {s : ByteArray} (hk : lookL S.L k = none) (hp : PubNew W w1 (g.bm (placeN k)) (g.f (placeN k)) k s) :
    KeepT w w1 (fun _ => True) ∧ Only w w1 (fun b => base ≤ b) ∧ ∃ lab' f', TabIs (fun _ => 0) w1 g.tb lab' (lookL (putL k s S.L)) g.bm f' g.cs ∧ (∀ b, lab' b ≠ none → base ≤ b) := by
  obtain ⟨eb, heb, hm, ho, hb⟩ := hp
  have hi : placeN k < 8 := by unfold placeN; omega
  have hki : k % 8 = ((placeN k : Nat) : Int) := by unfold placeN; omega
  have hbl := h.base_le
  have hsz := hW.size
  have hbm : base ≤ g.bm (placeN k) := h.outT _ (by rw [h.tab.lmap _ hi]; simp)
  refine ⟨(KeepT.fresh hW).trans (KeepT.only ho fun b cells t q _ e => ?_), (hW.mono fun _ _ q => q.elim).trans ho fun b q => .inl (by rw [q]; exact hbm), (fun b => if b = eb then some (2, k) else g.lab b), (fun j => if j = placeN k then (fun l => if l = k then some (.pointer (some ⟨eb, 0, none⟩)) else g.f (placeN k) l) else g.f j), ?_, ?_⟩
  · subst e
    obtain ⟨es, ck, q2, _⟩ := (h.tab.fresh hW).maps _ hi
    rw [q] at q2
    cases q2
  · have := (h.tab.fresh hW).put hi hki heb hm ho hb
    rw [show lookL (putL k s S.L) = fun j => if j = k then some s else lookL S.L j from funext fun j => lookL_put k s S.L hk j]
    exact this
  · intro b q
    by_cases e : b = eb
    · omega
    · have q2 : (if b = eb then some (2, k) else g.lab b) ≠ none := q
      rw [if_neg e] at q2
      exact h.outT b q2
theorem effP_new {S : PSt} {n : Nat} {c : PCl} {o : POp} (h1 : o.f0 = 1) (hk : lookL S.L o.f1 = none) : effectP S n c o = ⟨S.cls.set n { c with reply := some ⟨true, ⟨#[]⟩, [], []⟩ }, S.lk, putL o.f1 o.f2 S.L, S.hist⟩ := by simp [effectP, h1, repOf, tabOf, hk]
theorem effP_old {S : PSt} {n : Nat} {c : PCl} {o : POp} {s : ByteArray} (h1 : o.f0 = 1) (hk : lookL S.L o.f1 = some s) : effectP S n c o = ⟨S.cls.set n { c with reply := some ⟨false, ⟨#[]⟩, [], []⟩ }, S.lk, S.L, S.hist⟩ := by simp [effectP, h1, repOf, tabOf, hk]
theorem effP_look {S : PSt} {n : Nat} {c : PCl} {o : POp} (h1 : o.f0 = 2) : effectP S n c o = ⟨S.cls.set n { c with reply := some ⟨(lookL S.L o.f1).isSome, (lookL S.L o.f1).getD ⟨#[]⟩, [], []⟩ }, S.lk, S.L, S.hist⟩ := by simp [effectP, h1, repOf, tabOf]
theorem IR.nil (w : World) (base : Nat) : IR w base (.slice none 0 0) [] := ⟨rfl, .inl ⟨rfl, rfl⟩⟩
theorem SR.nil (w : World) (base : Nat) : SR w base (.slice none 0 0) [] := ⟨rfl, .inl ⟨rfl, rfl⟩⟩
set_option maxRecDepth 100000 in
set_option maxHeartbeats 2000000 in
theorem effect_pub {w : World} {base sb : Nat} {S : PSt} {g : Gh} (h : StIs w base sb S g) {n : Nat} {c : PCl} (hn : S.cls[n]? = some c) {o : POp} {rest : List POp} (ho : c.ops = o :: rest) (h1 : o.f0 = 1) :
    Calls Try.prog 62 #[.pointer (some ⟨sb, 0, none⟩), .pointer (some ⟨g.cb n, 0, none⟩)] w fun e w' => EffPost w w' e base sb (effectP S n c o) g := by
  have hc := h.cl n c hn
  obtain ⟨ob, off, C, hvo, hC1, hC2, k0, k1, k2, _⟩ := hc.opcell ho
  have hcb := blk_lt hc.blk
  have hsb := blk_lt h.blk
  have hbc : base ≤ g.cb n := h.outC n (List.getElem?_eq_some_iff.1 hn).1
  obtain ⟨cb, hcbe⟩ : ∃ cb, cb = g.cb n := ⟨_, rfl⟩
  have c0 : w.cell? ⟨cb, 0, none⟩ = some (g.vo n) := by rw [hcbe]; exact blk_cell hc.blk rfl
  have c3 : w.cell? ⟨cb, 3, none⟩ = some (g.vr n) := by rw [hcbe]; exact blk_cell hc.blk rfl
  have z3 : w.frozen? ⟨cb, 3, none⟩ = false := by rw [hcbe]; exact blk_frozen hc.blk 3
  have s0 : w.cell? ⟨sb, 0, none⟩ = some (.pointer (some ⟨g.tb, 0, none⟩)) := blk_cell h.blk rfl
  rw [hvo] at c0
  rw [← hcbe] at hcb ⊢
  obtain ⟨p, hp⟩ : ∃ p : Nat, p = placeN o.f1 := ⟨_, rfl⟩
  have hp8 : p < 8 := by rw [hp]; unfold placeN; omega
  have HPL := Lib.hid (fun W => place_any W o.f1 p (by rw [hp]; unfold placeN; omega))
  have hr1 : (0 : Int) < ((rest.length + 1 : Nat) : Int) := by omega
  have l0 : (0 : Int) ≤ (p : Int) := by omega
  have l1 : (p : Int) < 8 := by omega
  have H := Lib.hid (And.intro h (And.intro hn (And.intro hcbe (And.intro hp h1))))
  rw [h1] at k0
  obtain ⟨tb, htb⟩ : ∃ tb, tb = g.tb := ⟨_, rfl⟩
  rw [← htb] at s0
  have HTB := Lib.hid htb
  obtain ⟨vr, hvr⟩ : ∃ vr, vr = g.vr n := ⟨_, rfl⟩
  rw [← hvr] at c3
  clear hc hvo hn ho h1 hcbe hp hvr htb
  cases hk : lookL S.L o.f1 with
  | none =>
    have HK := Lib.hid hk
    have hPB : ∀ W, Fresh w W → Calls Try.prog 39 #[.pointer (some ⟨tb, p * 3, none⟩), .int .i64 o.f1, .string o.f2] W fun e w' => e = .returned (.bool true) ∧ PubNew W w' (g.bm p) (g.f p) o.f1 o.f2 := fun W hW => by
      have ht := h.tab.fresh hW
      rw [HTB.out]
      refine publish_new W g.tb p (g.bm p) (g.f p) o.f1 o.f2 (blk_cell ht.self (ht.mapc p hp8)) (ht.maps p hp8) ?_
      cases q : g.f p o.f1 with
      | none => rfl
      | some v => exact absurd hk ((ht.f_iff hp8 o.f1).1 (by rw [q]; simp)).2
    have HPB := Lib.hid hPB
    clear hPB h hk
    go_enter Try.func62, Try.ntmps62
    go_wp2_with fail
    go_quiet (refine Calls.quiet_of_same (HPL.out _))
    go_wp2_with fail
    refine (HPB.out _ (by repeat (first | exact Only.refl _ _ | refine Only.drewN ?_ _ | refine Only.alloc ?_ _))).mono ?_
    rintro e w1 ⟨rfl, hp⟩
    obtain ⟨h, hn, hcbe, hpp, h1⟩ := H.out
    obtain ⟨q1, q2, lab', f', q3, q4⟩ := h.pubNew (W := (w.alloc (.cells #[.int .i64 1, .int .i64 o.f1, .string o.f2] 23)).drewN nq) (by repeat (first | exact Only.refl _ _ | refine Only.drewN ?_ _ | refine Only.alloc ?_ _)) HK.out (by rw [← hpp]; exact hp)
    have hb1 := (q1 _ _ _ (h.cl n c hn).blk trivial).trans (h.cl n c hn).blk
    rw [← hcbe] at hb1
    have d3 : w1.cell? ⟨cb, 3, none⟩ = some (g.vr n) := blk_cell hb1 rfl
    have y3 : w1.frozen? ⟨cb, 3, none⟩ = false := blk_frozen hb1 3
    have hl1 := blk_lt hb1
    have HF := Lib.hid (And.intro q1 (And.intro q2 (And.intro q3 q4)))
    clear h hn hcbe hpp h1 q1 q2 q3 q4 hp hb1
    go_wp2_with fail
    go_end0
    obtain ⟨h, hn, hcbe, hpp, h1⟩ := H.out
    obtain ⟨q1, q2, q3, q4⟩ := HF.out
    have hst := h.eff hn (r := ⟨true, ⟨#[]⟩, [], []⟩) q1 q3 (putL_rising h.rising fun q => (lookL_iff _ _).1 q HK.out) q4 (IR.nil _ _) (SR.nil _ _)
    rw [← hcbe, ← swap_set _ _ _ _ _ hl1] at hst
    rw [← effP_new (c := c) h1 HK.out] at hst
    exact ⟨rfl, _, hst, rfl, rfl, set_only q2 _ (p := ⟨cb, 3, none⟩) (by rw [hcbe]; exact hbc) _⟩
  | some s =>
    have HK := Lib.hid hk
    have hPB : ∀ W, Fresh w W → Calls Try.prog 39 #[.pointer (some ⟨tb, p * 3, none⟩), .int .i64 o.f1, .string o.f2] W fun e w' => e = .returned (.bool false) ∧ w' = W := fun W hW => by
      have ht := h.tab.fresh hW
      rw [HTB.out]
      have hent := ht.ents p hp8 o.f1
      rw [if_pos (by rw [H.out.2.2.2.1]; unfold placeN; omega), hk] at hent
      obtain ⟨v, hv⟩ : ∃ v, g.f p o.f1 = some v := by
        cases hq : g.f p o.f1 with
        | none => rw [hq] at hent; exact hent.elim
        | some v => exact ⟨v, rfl⟩
      rw [hv] at hent
      obtain ⟨eb, rfl, hbe, hle⟩ := hent
      exact publish_old W g.tb p (g.bm p) eb (g.f p) o.f1 o.f2 (blk_cell ht.self (ht.mapc p hp8)) (ht.maps p hp8) hv (blk_cell (i := 0) hbe rfl)
    have HPB := Lib.hid hPB
    clear hPB h hk
    go_enter Try.func62, Try.ntmps62
    go_wp2_with fail
    go_quiet (refine Calls.quiet_of_same (HPL.out _))
    go_wp2_with fail
    refine (HPB.out _ (by repeat (first | exact Only.refl _ _ | refine Only.drewN ?_ _ | refine Only.alloc ?_ _))).mono ?_
    rintro e w1 ⟨rfl, hw1⟩
    have hf1 : Fresh w w1 := by rw [hw1]; repeat (first | exact Only.refl _ _ | refine Only.drewN ?_ _ | refine Only.alloc ?_ _)
    obtain ⟨h, hn, hcbe, hpp, h1⟩ := H.out
    have hb1 := hf1.blk (h.cl n c hn).blk (fun q => q)
    rw [← hcbe] at hb1
    have d3 : w1.cell? ⟨cb, 3, none⟩ = some (g.vr n) := blk_cell hb1 rfl
    have y3 : w1.frozen? ⟨cb, 3, none⟩ = false := blk_frozen hb1 3
    have hl1 := blk_lt hb1
    have HF := Lib.hid hf1
    clear h hn hcbe hpp h1 hf1 hb1 hw1
    go_wp2_with fail
    go_end0
    obtain ⟨h, hn, hcbe, hpp, h1⟩ := H.out
    have hst := h.eff hn (r := ⟨false, ⟨#[]⟩, [], []⟩) (KeepT.fresh HF.out) (h.tab.fresh HF.out) h.rising h.outT (IR.nil _ _) (SR.nil _ _)
    rw [← hcbe, ← swap_set _ _ _ _ _ hl1] at hst
    rw [← effP_old (c := c) h1 HK.out] at hst
    exact ⟨rfl, _, hst, rfl, rfl, set_only (HF.out.mono fun _ _ q => q.elim) _ (p := ⟨cb, 3, none⟩) (by rw [hcbe]; exact hbc) _⟩
set_option maxRecDepth 100000 in
set_option maxHeartbeats 2000000 in
theorem effect_look {w : World} {base sb : Nat} {S : PSt} {g : Gh} (h : StIs w base sb S g) {n : Nat} {c : PCl} (hn : S.cls[n]? = some c) {o : POp} {rest : List POp} (ho : c.ops = o :: rest) (h1 : o.f0 = 2) :
    Calls Try.prog 62 #[.pointer (some ⟨sb, 0, none⟩), .pointer (some ⟨g.cb n, 0, none⟩)] w fun e w' => EffPost w w' e base sb (effectP S n c o) g := by
  have hc := h.cl n c hn
  obtain ⟨ob, off, C, hvo, hC1, hC2, k0, k1, k2, _⟩ := hc.opcell ho
  have hcb := blk_lt hc.blk
  have hsb := blk_lt h.blk
  have hbc : base ≤ g.cb n := h.outC n (List.getElem?_eq_some_iff.1 hn).1
  obtain ⟨cb, hcbe⟩ : ∃ cb, cb = g.cb n := ⟨_, rfl⟩
  have c0 : w.cell? ⟨cb, 0, none⟩ = some (g.vo n) := by rw [hcbe]; exact blk_cell hc.blk rfl
  have c3 : w.cell? ⟨cb, 3, none⟩ = some (g.vr n) := by rw [hcbe]; exact blk_cell hc.blk rfl
  have z3 : w.frozen? ⟨cb, 3, none⟩ = false := by rw [hcbe]; exact blk_frozen hc.blk 3
  have s0 : w.cell? ⟨sb, 0, none⟩ = some (.pointer (some ⟨g.tb, 0, none⟩)) := blk_cell h.blk rfl
  rw [hvo] at c0
  rw [← hcbe] at hcb ⊢
  obtain ⟨p, hp⟩ : ∃ p : Nat, p = placeN o.f1 := ⟨_, rfl⟩
  have hp8 : p < 8 := by rw [hp]; unfold placeN; omega
  have HPL := Lib.hid (fun W => place_any W o.f1 p (by rw [hp]; unfold placeN; omega))
  have hr1 : (0 : Int) < ((rest.length + 1 : Nat) : Int) := by omega
  have l0 : (0 : Int) ≤ (p : Int) := by omega
  have l1 : (p : Int) < 8 := by omega
  have H := Lib.hid (And.intro h (And.intro hn (And.intro hcbe (And.intro hp h1))))
  rw [h1] at k0
  obtain ⟨tb, htb⟩ : ∃ tb, tb = g.tb := ⟨_, rfl⟩
  rw [← htb] at s0
  have HTB := Lib.hid htb
  obtain ⟨vr, hvr⟩ : ∃ vr, vr = g.vr n := ⟨_, rfl⟩
  rw [← hvr] at c3
  obtain ⟨tf, htf⟩ : ∃ tf, tf = (lookL S.L o.f1).isSome := ⟨_, rfl⟩
  obtain ⟨ts, hts⟩ : ∃ ts, ts = (lookL S.L o.f1).getD ⟨#[]⟩ := ⟨_, rfl⟩
  have hPB : ∀ W, Fresh w W → Calls Try.prog 37 #[.pointer (some ⟨tb, p * 3, none⟩), .int .i64 o.f1] W fun e w' => e = .returned (.tuple #[.string ts, .bool tf]) ∧ w' = W := fun W hW => by
    have ht := h.tab.fresh hW
    rw [HTB.out, htf, hts]
    cases hk : lookL S.L o.f1 with
    | some s => exact ht.look_all hp8 o.f1 (by rw [hp]; unfold placeN; omega) s hk
    | none =>
      refine lookup_none W g.tb p (g.bm p) (g.f p) o.f1 (blk_cell ht.self (ht.mapc p hp8)) (ht.maps p hp8) ?_
      cases q : g.f p o.f1 with
      | none => rfl
      | some v => exact absurd hk ((ht.f_iff hp8 o.f1).1 (by rw [q]; simp)).2
  have HPB := Lib.hid hPB
  have HTF := Lib.hid (And.intro htf hts)
  clear hc hvo hn ho h1 hcbe hp hvr htb hPB h htf hts
  go_enter Try.func62, Try.ntmps62
  go_wp2_with fail
  go_quiet (refine Calls.quiet_of_same (HPL.out _))
  go_wp2_with fail
  refine (HPB.out _ (by repeat (first | exact Only.refl _ _ | refine Only.drewN ?_ _ | refine Only.alloc ?_ _))).mono ?_
  rintro e w1 ⟨rfl, hw1⟩
  have hf1 : Fresh w w1 := by rw [hw1]; repeat (first | exact Only.refl _ _ | refine Only.drewN ?_ _ | refine Only.alloc ?_ _)
  obtain ⟨h, hn, hcbe, hpp, h1⟩ := H.out
  have hb1 := hf1.blk (h.cl n c hn).blk (fun q => q)
  rw [← hcbe] at hb1
  have d3 : w1.cell? ⟨cb, 3, none⟩ = some (g.vr n) := blk_cell hb1 rfl
  have y3 : w1.frozen? ⟨cb, 3, none⟩ = false := blk_frozen hb1 3
  have hl1 := blk_lt hb1
  have HF := Lib.hid hf1
  clear h hn hcbe hpp h1 hf1 hb1 hw1
  go_wp2_with fail
  go_end0
  obtain ⟨h, hn, hcbe, hpp, h1⟩ := H.out
  have hst := h.eff hn (r := ⟨tf, ts, [], []⟩) (KeepT.fresh HF.out) (h.tab.fresh HF.out) h.rising h.outT (IR.nil _ _) (SR.nil _ _)
  rw [← hcbe, ← swap_set _ _ _ _ _ hl1] at hst
  rw [HTF.out.1, HTF.out.2, ← effP_look (c := c) h1, ← HTF.out.1, ← HTF.out.2] at hst
  exact ⟨rfl, _, hst, rfl, rfl, set_only (HF.out.mono fun _ _ q => q.elim) _ (p := ⟨cb, 3, none⟩) (by rw [hcbe]; exact hbc) _⟩
end Go.Proofs.Ytihjpbalkjhjbaa
namespace Go.Proofs.Ytihjpbalkjhjbaa
open Go.RowKit Go.MapKept Go.MuLone Go.Shelf Go.Proofs.YtihjpbalkjhjbaaW.PrintWords
theorem own_lower {W : World} {base base' : Nat} {e : TypeId} {size : Nat} {v : Value} {k : Nat} {xs : List Value} (h : W.ownsRow base e size v k xs) (hb : base' ≤ base) : W.ownsRow base' e size v k xs := by
  refine ⟨h.1, ?_⟩
  rcases h.2 with q | ⟨g, cap, cur, k1, k2, k3⟩
  · exact .inl q
  · exact .inr ⟨g, cap, cur, k1, Nat.le_trans hb k2, k3⟩
theorem client_ne {w : World} {base sb : Nat} {S : PSt} {g : Gh} (h : StIs w base sb S g) {i : Nat} (hi : i < S.cls.length) : g.cb i ≠ sb := fun e => by
  have q := (h.cl i _ (List.getElem?_eq_getElem hi)).blk
  have := h.blk
  rw [← e, q] at this
  injection this with this
  injection this with _ this _
  exact absurd this (by decide)
/-- the locks are given back -/
theorem StIs.unlock {w w' : World} {base sb : Nat} {S : PSt} {g : Gh} (h : StIs w base sb S g) {n : Nat} {c : PCl} (hn : S.cls[n]? = some c)
    (hb : w'.heap[sb]? = some (.cells (stageC g.tb (fun _ => false) g.vc g.vh) 96 (0, 0))) (ho : Only (w.setCell ⟨g.cb n, 2, none⟩ (.int .i64 0)) w' fun b => b = sb) :
    StIs w' base sb ⟨S.cls.set n { c with lockd := 0 }, fun _ => false, S.L, S.hist⟩ g := by
  have hni : n < S.cls.length := (List.getElem?_eq_some_iff.1 hn).1
  have hc := h.cl n c hn
  have b2 := blk_set hc.blk 2 (.int .i64 0)
  have s2 : (w.setCell ⟨g.cb n, 2, none⟩ (.int .i64 0)).heap[sb]? = some (.cells (stageC g.tb S.lk g.vc g.vh) 96 (0, 0)) := (Below.heap_setCell _ ⟨g.cb n, 2, none⟩ _ sb (client_ne h hni).symm).trans h.blk
  have hk1 : KeepT (w.setCell ⟨g.cb n, 2, none⟩ (.int .i64 0)) w' fun t => t ≠ 96 := KeepT.only ho fun b cells t q ht e => by
    subst e
    rw [s2] at q
    injection q with q
    injection q with _ q _
    exact ht q.symm
  have hk : KeepT w w' Quiet := (KeepT.set hc.blk (fun q => q.1 rfl) 2 _).trans (hk1.mono fun t q => q.2.1)
  refine h.turn hk (fun i hi hin => ?_) rfl (fun i hi => ⟨rfl, rfl, rfl, rfl⟩) rfl ⟨?_, ?_, ?_, Nat.zero_le _⟩ hb ?_ h.rising h.outT ?_ h.hlen (fun j m q h4 h5 => (h.hmem j m q h4 h5).keepT hk (quiet_of (by decide) (by decide) (by decide)) (quiet_of (by decide) (by decide) (by decide)))
  · have q := (h.cl i _ (List.getElem?_eq_getElem hi)).blk
    have e : (w.setCell ⟨g.cb n, 2, none⟩ (.int .i64 0)).heap[g.cb i]? = w.heap[g.cb i]? := Below.heap_setCell _ ⟨g.cb n, 2, none⟩ _ _ fun e => hin (h.cinj i n hi hni e)
    exact (ho.block _ (by rw [← e] at q; exact blk_lt q) (client_ne h hi)).trans e
  · exact (ho.block _ (blk_lt b2) (client_ne h hni)).trans b2
  · exact hc.ops.keepT hk (quiet_of (by decide) (by decide) (by decide))
  · exact hc.rep.keepT hk (quiet_of (by decide) (by decide) (by decide)) (quiet_of (by decide) (by decide) (by decide)) (quiet_of (by decide) (by decide) (by decide))
  · refine (h.tab.set hc.blk (by decide) (by decide) 2 (.int .i64 0)).keepT hk1 (by decide) (by decide) (fun i hi => ho.block _ ((h.tab.set hc.blk (by decide) (by decide) 2 (.int .i64 0)).maps i hi).lt fun e => ?_) ho.size
    obtain ⟨es, ck, q, _⟩ := (h.tab.set hc.blk (by decide) (by decide) 2 (.int .i64 0)).maps i hi
    rw [e, s2] at q
    cases q
  · have hr1 : OutRowT (w.setCell ⟨g.cb n, 2, none⟩ (.int .i64 0)) base g.vh g.rows := OutRowT.keepT h.hrow (KeepT.set (ts := fun t => t = 52) hc.blk (by decide) 2 _) rfl
    exact OutRowT.keepT hr1 hk1 (by decide)
theorem effP_snap {S : PSt} {n : Nat} {c : PCl} {o : POp} (h1 : o.f0 = 3) : effectP S n c o = ⟨S.cls.set n { c with reply := some ⟨true, ⟨#[]⟩, S.L.map (·.1), S.L.map (·.2)⟩, lockd := 0 }, fun _ => false, S.L, S.hist⟩ := by simp [effectP, h1, repOf, tabOf]
set_option maxRecDepth 100000 in
set_option maxHeartbeats 2000000 in
theorem effect_snap {w : World} {base sb : Nat} {S : PSt} {g : Gh} (h : StIs w base sb S g) {n : Nat} {c : PCl} (hn : S.cls[n]? = some c) {o : POp} {rest : List POp} (ho : c.ops = o :: rest) (h1 : o.f0 = 3) (hL : S.L.length ≤ 16777216) :
    Calls Try.prog 62 #[.pointer (some ⟨sb, 0, none⟩), .pointer (some ⟨g.cb n, 0, none⟩)] w fun e w' => EffPost w w' e base sb (effectP S n c o) g := by
  have hc := h.cl n c hn
  obtain ⟨ob, off, C, hvo, hC1, hC2, k0, k1, k2, _⟩ := hc.opcell ho
  have hcb := blk_lt hc.blk
  have hsb := blk_lt h.blk
  have hbc : base ≤ g.cb n := h.outC n (List.getElem?_eq_some_iff.1 hn).1
  have hbs : base ≤ sb := h.outS
  obtain ⟨cb, hcbe⟩ : ∃ cb, cb = g.cb n := ⟨_, rfl⟩
  have c0 : w.cell? ⟨cb, 0, none⟩ = some (g.vo n) := by rw [hcbe]; exact blk_cell hc.blk rfl
  have s0 : w.cell? ⟨sb, 0, none⟩ = some (.pointer (some ⟨g.tb, 0, none⟩)) := blk_cell h.blk rfl
  rw [hvo] at c0
  rw [← hcbe] at hcb ⊢
  obtain ⟨p, hp⟩ : ∃ p : Nat, p = placeN o.f1 := ⟨_, rfl⟩
  have hp8 : p < 8 := by rw [hp]; unfold placeN; omega
  have HPL := Lib.hid (fun W => place_any W o.f1 p (by rw [hp]; unfold placeN; omega))
  have hr1 : (0 : Int) < ((rest.length + 1 : Nat) : Int) := by omega
  have l0 : (0 : Int) ≤ (p : Int) := by omega
  have l1 : (p : Int) < 8 := by omega
  have H := Lib.hid (And.intro h (And.intro hn (And.intro hcbe (And.intro hp h1))))
  rw [h1] at k0
  obtain ⟨tb, htb⟩ : ∃ tb, tb = g.tb := ⟨_, rfl⟩
  rw [← htb] at s0
  have hPB : ∀ W, Fresh w W → Calls Try.prog 38 #[.pointer (some ⟨tb, 0, none⟩)] W fun e w' => AllPost W w' e S.L := fun W hW => by
    rw [htb]
    exact all_walk (h.tab.fresh hW) S.L h.rising (lookL_iff S.L) (lookL_mem h.rising) hL
  have HPB := Lib.hid hPB
  clear hc hvo hn ho h1 hcbe hp htb hPB h
  go_enter Try.func62, Try.ntmps62
  go_wp2_with fail
  go_quiet (refine Calls.quiet_of_same (HPL.out _))
  go_wp2_with fail
  obtain ⟨V, hV⟩ : ∃ V, V = (w.alloc (.cells #[.int .i64 3, .int .i64 o.f1, .string o.f2] 23)).drewN nq := ⟨_, rfl⟩
  rw [← hV]
  have hfV : Fresh w V := by rw [hV]; repeat (first | exact Only.refl _ _ | refine Only.drewN ?_ _ | refine Only.alloc ?_ _)
  refine (HPB.out V hfV).mono ?_
  rintro e w1 ⟨v1, v2, rfl, hr1, hr2, hf⟩
  obtain ⟨A1, C1, rfl⟩ := own_slice hr1
  obtain ⟨A2, C2, rfl⟩ := own_slice hr2
  have hf1 : Fresh w w1 := hfV.trans' hf
  obtain ⟨h, hn, hcbe, hpp, h1⟩ := H.out
  have hb1 := hf1.blk (h.cl n c hn).blk (fun q => q)
  have hs1 := hf1.blk h.blk (fun q => q)
  rw [← hcbe] at hb1
  have d3 : w1.cell? ⟨cb, 3, none⟩ = some (g.vr n) := blk_cell hb1 rfl
  have y3 : w1.frozen? ⟨cb, 3, none⟩ = false := blk_frozen hb1 3
  have d2 : w1.cell? ⟨cb, 2, none⟩ = some (.int .i64 c.lockd) := blk_cell hb1 rfl
  have y2 : w1.frozen? ⟨cb, 2, none⟩ = false := blk_frozen hb1 2
  have hl1 := blk_lt hb1
  have hbl := h.base_le
  have hsV := hfV.size
  have hcs : cb ≠ sb := by rw [hcbe]; exact client_ne h (List.getElem?_eq_some_iff.1 hn).1
  have hb3 : (((w1.setCell ⟨cb, 3, none⟩ (.pointer (some ⟨w1.heap.size, 0, none⟩))).setCell ⟨cb, 2, none⟩ (.int .i64 0)).alloc (.cells #[.bool true, .string ⟨#[]⟩, .slice A1 S.L.length C1, .slice A2 S.L.length C2] 50)).heap[sb]? = some (.cells (stageC g.tb S.lk g.vc g.vh) 96 (0, 0)) :=
    blk_alloc ((Below.heap_setCell _ ⟨cb, 2, none⟩ _ sb hcs.symm).trans ((Below.heap_setCell _ ⟨cb, 3, none⟩ _ sb hcs.symm).trans hs1)) _
  obtain ⟨W', hcl, hcw, hco⟩ := run_clear8 _ sb g.tb S.lk g.vc g.vh hb3 0
  have HF := Lib.hid (And.intro hf1 (And.intro hr1 hr2))
  have HBL := Lib.hid (And.intro hbl hsV)
  have HC := Lib.hid (And.intro hcw hco)
  clear h hn hcbe hpp h1 hf1 hb1 hr1 hr2 hf hfV hV hs1 hbl hsV hb3 hcw hco
  go_wp2_with fail
  go_end0
  obtain ⟨h, hn, hcbe, hpp, h1⟩ := H.out
  obtain ⟨hf1, hr1, hr2⟩ := HF.out
  obtain ⟨hcw, hco⟩ := HC.out
  rw [swap_set _ _ _ _ _ (by simpa [World.setCell] using hl1), swap_set _ _ _ _ _ hl1] at hco
  have hst := h.eff hn (r := ⟨true, ⟨#[]⟩, S.L.map (·.1), S.L.map (·.2)⟩) (KeepT.fresh hf1) (h.tab.fresh hf1) h.rising h.outT (own_lower hr1 (Nat.le_trans HBL.out.1 HBL.out.2)) (own_lower hr2 (Nat.le_trans HBL.out.1 HBL.out.2))
  have hn2 : (S.cls.set n { c with reply := some ⟨true, ⟨#[]⟩, S.L.map (·.1), S.L.map (·.2)⟩ })[n]? = some { c with reply := some ⟨true, ⟨#[]⟩, S.L.map (·.1), S.L.map (·.2)⟩ } := by
    rw [List.getElem?_set, if_pos rfl, if_pos (List.getElem?_eq_some_iff.1 hn).1]
  have hun := hst.unlock hn2 hcw (by rw [hcbe] at hco; simpa only [List.length_map] using hco)
  simp only [List.set_set] at hun
  rw [← effP_snap (c := c) h1] at hun
  refine ⟨rfl, _, hun, rfl, rfl, ?_⟩
  have q1 : Only w (((w1.alloc (.cells #[.bool true, .string ⟨#[]⟩, .slice A1 S.L.length C1, .slice A2 S.L.length C2] 50)).setCell ⟨cb, 3, none⟩ (.pointer (some ⟨w1.heap.size, 0, none⟩))).setCell ⟨cb, 2, none⟩ (.int .i64 0)) fun b => base ≤ b :=
    (((hf1.mono fun _ _ q => q.elim).alloc _).setCell (p := ⟨cb, 3, none⟩) (.inl (by rw [hcbe]; exact hbc)) _).setCell (p := ⟨cb, 2, none⟩) (.inl (by rw [hcbe]; exact hbc)) _
  exact q1.trans hco fun b q => .inl (by rw [q]; exact hbs)
theorem keep_of_only {w w' : World} {b0 : Nat} {cells : Array Value} {t0 : TypeId} (hb : w.heap[b0]? = some (.cells cells t0 (0, 0))) (ho : Only w w' fun b => b = b0) : KeepT w w' fun t => t ≠ t0 := KeepT.only ho fun b c2 t q ht e => by
  subst e
  rw [hb] at q
  injection q with q
  injection q with _ q _
  exact ht q.symm
theorem maps_of_only {lk : Nat → Int} {w w' : World} {tb : Nat} {lab : TLab} {T : Int → Option ByteArray} {bm : Nat → Nat} {f : Nat → Int → Option Value} {cs : Array Value} (h : TabIs lk w tb lab T bm f cs) {b0 : Nat} {cells : Array Value} {t0 : TypeId} (hb : w.heap[b0]? = some (.cells cells t0 (0, 0))) (ho : Only w w' fun b => b = b0)
    (h1 : t0 ≠ 89) (h2 : t0 ≠ 127) : TabIs lk w' tb lab T bm f cs :=
  h.keepT (keep_of_only hb ho) h1.symm h2.symm (fun i hi => ho.block _ (h.maps i hi).lt fun e => by
    obtain ⟨es, ck, q, _⟩ := h.maps i hi
    rw [e, hb] at q
    cases q) ho.size
/-- a client moves on -/
theorem StIs.cli {w w' : World} {base sb : Nat} {S : PSt} {g : Gh} (h : StIs w base sb S g) {n : Nat} {c c' : PCl} (hn : S.cls[n]? = some c) {vo' vr' : Value} (ho : Only w w' fun b => b = g.cb n)
    (hnew : ClIs w' base (g.cb n) c' vo' vr' (g.v2 n) (g.v3 n)) :
    StIs w' base sb ⟨S.cls.set n c', S.lk, S.L, S.hist⟩ { g with vo := fun i => if i = n then vo' else g.vo i, vr := fun i => if i = n then vr' else g.vr i } := by
  have hni : n < S.cls.length := (List.getElem?_eq_some_iff.1 hn).1
  have hc := h.cl n c hn
  have hk1 := keep_of_only hc.blk ho
  have hk : KeepT w w' Quiet := hk1.mono fun t q => q.1
  refine h.turn hk (fun i hi hin => ?_) rfl (fun i hi => by simp [hi]) rfl (by simpa using hnew) ?_ (maps_of_only h.tab hc.blk ho (by decide) (by decide)) h.rising h.outT (OutRowT.keepT h.hrow hk1 (by decide)) h.hlen (fun j m q h4 h5 => (h.hmem j m q h4 h5).keepT hk (quiet_of (by decide) (by decide) (by decide)) (quiet_of (by decide) (by decide) (by decide)))
  · exact ho.block _ (blk_lt (h.cl i _ (List.getElem?_eq_getElem hi)).blk) fun e => hin (h.cinj i n hi hni e)
  · exact (ho.block _ (blk_lt h.blk) (client_ne h hni).symm).trans h.blk
/-- a moment more -/
theorem StIs.push {w w3 : World} {base sb : Nat} {S : PSt} {g : Gh} (h : StIs w base sb S g) {m : PMo} {v7 v8 : Value} (hm2 : IR w base v7 m.f3.f2) (hm3 : SR w base v8 m.f3.f3)
    {inner : List Value} (hr : Reps (fun (r : List Value) cs => cs = r) 9 g.rows inner) {A : Option Addr} {C : Nat} (hg0 : ∀ b, g.vh.ownBlock = some b → ∃ cells, w.heap[b]? = some (.cells cells 52 (0, 0)))
    (hown : w3.ownsRow base 52 9 (.slice A (g.rows.length + 1) C) (g.rows.length + 1) (inner ++ moV m v7 v8)) (hg : w.grownBy w3 g.vh.ownBlock) :
    StIs (w3.setCell ⟨sb, 10, none⟩ (.slice A (g.rows.length + 1) C)) base sb ⟨S.cls, S.lk, S.L, S.hist ++ [m]⟩ { g with vh := .slice A (g.rows.length + 1) C, rows := g.rows ++ [moV m v7 v8] } := by
  have hk1 : KeepT w w3 fun t => t ≠ 52 := fun b cells t hb ht => hg.block b (blk_lt hb) fun e => by
    obtain ⟨c2, h2⟩ := hg0 b e.symm
    rw [h2] at hb
    injection hb with hb
    injection hb with _ hb _
    exact ht hb.symm
  have hs3 : w3.heap[sb]? = some (.cells (stageC g.tb S.lk g.vc g.vh) 96 (0, 0)) := (hk1 _ _ _ h.blk (by decide)).trans h.blk
  have hk : KeepT w (w3.setCell ⟨sb, 10, none⟩ (.slice A (g.rows.length + 1) C)) Quiet := (hk1.mono fun t q => q.2.2).trans (KeepT.set hs3 (fun q => q.2.1 rfl) 10 _)
  have hkc : KeepT w (w3.setCell ⟨sb, 10, none⟩ (.slice A (g.rows.length + 1) C)) fun t => t = 100 := (hk1.mono fun t q => by rw [q]; decide).trans (KeepT.set hs3 (by decide) 10 _)
  have hlen : (g.rows ++ [moV m v7 v8]).length = g.rows.length + 1 := by simp
  refine ⟨blk_set hs3 10 _, ?_, h.rising, row_keepT h.crow hk (quiet_of (by decide) (by decide) (by decide)), fun i c hc => ?_, h.cinj, ?_, by simp [h.hlen], fun j m' r h1 h2 => ?_, h.many, h.outS, h.outT, h.outC⟩
  · refine (h.tab.keepT hk1 (by decide) (by decide) (fun i hi => hg.block _ (h.tab.maps i hi).lt fun e => ?_) hg.size).set hs3 (by decide) (by decide) 10 _
    obtain ⟨c2, h2⟩ := hg0 _ e.symm
    obtain ⟨es, ck, q, _⟩ := h.tab.maps i hi
    rw [q] at h2
    cases h2
  · have q := h.cl i c hc
    exact ⟨(hkc _ _ _ q.blk rfl).trans q.blk, q.ops.keepT hk (quiet_of (by decide) (by decide) (by decide)), q.rep.keepT hk (quiet_of (by decide) (by decide) (by decide)) (quiet_of (by decide) (by decide) (by decide)) (quiet_of (by decide) (by decide) (by decide)), q.small⟩
  · have h0 : OutRowT w3 base (.slice A (g.rows.length + 1) C) (g.rows ++ [moV m v7 v8]) := ⟨inner ++ moV m v7 v8, by rw [hlen]; exact hown, hr.snoc rfl rfl⟩
    exact OutRowT.keepT h0 (KeepT.set (ts := fun t => t = 52) hs3 (by decide) 10 _) rfl
  · have h2' : (g.rows ++ [moV m v7 v8])[j]? = some r := h2
    have h1' : (S.hist ++ [m])[j]? = some m' := h1
    by_cases hj : j < g.rows.length
    · rw [List.getElem?_append_left hj] at h2'
      rw [List.getElem?_append_left (by rw [← h.hlen]; exact hj)] at h1'
      exact (h.hmem j m' r h1' h2').keepT hk (quiet_of (by decide) (by decide) (by decide)) (quiet_of (by decide) (by decide) (by decide))
    · have hj2 : j = g.rows.length := by
        have := (List.getElem?_eq_some_iff.1 h2').1
        rw [hlen] at this
        omega
      subst hj2
      rw [List.getElem?_append_right (Nat.le_refl _), Nat.sub_self] at h2'
      rw [h.hlen, List.getElem?_append_right (Nat.le_refl _), Nat.sub_self] at h1'
      cases h2'
      cases h1'
      exact ⟨v7, v8, rfl, row_keepT hm2 hk (quiet_of (by decide) (by decide) (by decide)), row_keepT hm3 hk (quiet_of (by decide) (by decide) (by decide))⟩
/-- a lock is taken -/
theorem StIs.take {w w' : World} {base sb : Nat} {S : PSt} {g : Gh} (h : StIs w base sb S g) {lk' : Nat → Bool} (ho : Only w w' fun b => b = sb) (hb : w'.heap[sb]? = some (.cells (stageC g.tb lk' g.vc g.vh) 96 (0, 0))) :
    StIs w' base sb ⟨S.cls, lk', S.L, S.hist⟩ g := by
  have hk1 := keep_of_only h.blk ho
  have hk : KeepT w w' Quiet := hk1.mono fun t q => q.2.1
  exact ⟨hb, maps_of_only h.tab h.blk ho (by decide) (by decide), h.rising, row_keepT h.crow hk (quiet_of (by decide) (by decide) (by decide)), fun i c hc => by
    have q := h.cl i c hc
    exact ⟨(hk1 _ _ _ q.blk (by decide)).trans q.blk, q.ops.keepT hk (quiet_of (by decide) (by decide) (by decide)), q.rep.keepT hk (quiet_of (by decide) (by decide) (by decide)) (quiet_of (by decide) (by decide) (by decide)) (quiet_of (by decide) (by decide) (by decide)), q.small⟩,
    h.cinj, OutRowT.keepT h.hrow hk1 (by decide), h.hlen, fun j m q h4 h5 => (h.hmem j m q h4 h5).keepT hk (quiet_of (by decide) (by decide) (by decide)) (quiet_of (by decide) (by decide) (by decide)), h.many, h.outS, h.outT, h.outC⟩
theorem stageC_set (tb : Nat) (lk : Nat → Bool) (vc vh : Value) {j : Nat} (hj : j < 8) : (stageC tb lk vc vh).setIfInBounds (1 + j) (.bool true) = stageC tb (fun i => if i = j then true else lk i) vc vh := by
  rcases j with _ | _ | _ | _ | _ | _ | _ | _ | j
  all_goals first | rfl | omega
/-- the rest of a client's calls -/
theorem OpsAt.tail {w : World} {ob off C : Nat} {o : POp} {rest : List POp} (h : OpsAt w (.slice (some ⟨ob, off, none⟩) (rest.length + 1) C) (o :: rest)) : OpsAt w (.slice (some ⟨ob, off + 3, none⟩) rest.length (C - 1)) rest := by
  rcases h with ⟨_, q⟩ | ⟨ob', off', C', cells, h1, h2, h3, h4, h5⟩
  · cases q
  · injection h1 with e1 e2 e3
    cases e1
    subst e3
    simp only [List.length_cons] at h2
    refine .inr ⟨ob, off + 3, C - 1, cells, rfl, by omega, by omega, h4, fun j o' hj => ?_⟩
    have := h5 (j + 1) o' (by simpa using hj)
    rw [show off + 3 + j * 3 = off + (j + 1) * 3 by omega]
    exact this
theorem tinfoMoment : (Try.prog.info? 52).map (fun i => (i.zero, i.size, i.bytes)) = some (some (.agg #[(.int .i64 0), (.bool false), (.int .i64 0), (.int .i64 0), (.string ⟨#[]⟩), (.bool false), (.string ⟨#[]⟩), (.slice none 0 0), (.slice none 0 0)]), 9, 120) := by kernel_rfl
def StepPost (w w' : World) (e : Ending) (base sb : Nat) (S' : PSt) (g : Gh) : Prop :=
  e = .returned (.tuple #[]) ∧ ∃ g', StIs w' base sb S' g' ∧ g'.cb = g.cb ∧ Only w w' fun b => base ≤ b
theorem rows_at {w : World} {base n : Nat} {v : Value} {xs : List Value} (h : w.ownsRow base 97 1 v n xs) {i : Nat} {x : Value} (hx : xs[i]? = some x) : ∃ A C, v = .slice (some ⟨A, 0, none⟩) n C ∧ n ≤ C ∧ w.cell? ⟨A, i, none⟩ = some x := by
  obtain ⟨g, c', he, h1, _⟩ := own_cell h hx
  refine ⟨g, c', he, ?_, h1⟩
  rcases h.2 with ⟨q, _⟩ | ⟨g', cap, cur, q, _, _, hn, _⟩
  · rw [q] at he; cases he
  · rw [q] at he
    injection he with _ _ e3
    omega
set_option maxRecDepth 100000 in
set_option maxHeartbeats 2000000 in
theorem step_begin {w : World} {base sb : Nat} {S : PSt} {g : Gh} (h : StIs w base sb S g) {n : Nat} {c : PCl} (hn : S.cls[n]? = some c) {o : POp} {rest : List POp} (ho : c.ops = o :: rest) (hb : c.begun = false) (hL : S.hist.length ≤ 16777216) :
    Calls Try.prog 42 #[.pointer (some ⟨sb, 0, none⟩), .int .i64 n] w fun e w' => StepPost w w' e base sb (stepP S n c o rest) g := by
  have hc := h.cl n c hn
  have hni : n < S.cls.length := (List.getElem?_eq_some_iff.1 hn).1
  obtain ⟨ob, off, C, hvo, hC1, hC2, k0, k1, k2, _⟩ := hc.opcell ho
  have hcb := blk_lt hc.blk
  have hsb := blk_lt h.blk
  have hbc : base ≤ g.cb n := h.outC n hni
  have hbs : base ≤ sb := h.outS
  obtain ⟨gc, Cc, hvc, hnc, kc⟩ := rows_at h.crow (i := n) (x := .pointer (some ⟨g.cb n, 0, none⟩)) (by simp [hni])
  have s9 : w.cell? ⟨sb, 9, none⟩ = some g.vc := blk_cell h.blk rfl
  have s10 : w.cell? ⟨sb, 10, none⟩ = some g.vh := blk_cell h.blk rfl
  rw [hvc] at s9
  obtain ⟨cb, hcbe⟩ : ∃ cb, cb = g.cb n := ⟨_, rfl⟩
  rw [← hcbe] at kc
  have c0 : w.cell? ⟨cb, 0, none⟩ = some (g.vo n) := by rw [hcbe]; exact blk_cell hc.blk rfl
  have c1 : w.cell? ⟨cb, 1, none⟩ = some (.bool false) := by rw [hcbe, ← hb]; exact blk_cell hc.blk rfl
  have z1 : w.frozen? ⟨cb, 1, none⟩ = false := by rw [hcbe]; exact blk_frozen hc.blk 1
  have hcs : cb ≠ sb := by rw [hcbe]; exact client_ne h hni
  rw [hvo] at c0
  rw [← hcbe] at hcb
  have hr1 : (0 : Int) < ((rest.length + 1 : Nat) : Int) := by omega
  have l0 : (0 : Int) ≤ (n : Int) := by omega
  have l1 : (n : Int) < (S.cls.length : Int) := by omega
  have H := Lib.hid (And.intro h (And.intro hn (And.intro hcbe (And.intro ho hb))))
  clear hc hvo hn ho hb hcbe hvc h
  go_enter Try.func42, Try.ntmps42
  go_upto_region 5 with fail
  refine nameW ?_
  intro V hV
  obtain ⟨h, hn, hcbe, ho, hb⟩ := H.out
  have hoV : Only w V fun b => b = g.cb n := by
    rw [hV]
    exact ((Only.refl w fun b => b = g.cb n).setCell (p := ⟨cb, 1, none⟩) (.inl hcbe) _).alloc _
  have hc := h.cl n c hn
  have hbV : V.heap[g.cb n]? = some (.cells #[g.vo n, .bool true, .int .i64 c.lockd, g.vr n] 100 (0, 0)) := by
    rw [hV, hcbe]
    exact blk_alloc (blk_set hc.blk 1 _) _
  have hkV := keep_of_only hc.blk hoV
  have h1 := h.cli hn (c' := { c with begun := true }) hoV ⟨hbV, hc.ops.keepT hkV (by decide), hc.rep.keepT hkV (by decide) (by decide) (by decide), hc.small⟩
  have hd : V.heap[w.heap.size]? = some (.cells #[.int .i64 o.f0, .int .i64 o.f1, .string o.f2] 23 (0, 0)) := by
    rw [hV]
    have := new_blk (w := w.setCell ⟨cb, 1, none⟩ (.bool true)) (.cells #[.int .i64 o.f0, .int .i64 o.f1, .string o.f2] 23)
    simpa [World.setCell] using this
  have d0 : V.cell? ⟨w.heap.size, 0, none⟩ = some (.int .i64 o.f0) := blk_cell hd rfl
  have d1 : V.cell? ⟨w.heap.size, 1, none⟩ = some (.int .i64 o.f1) := blk_cell hd rfl
  have d2 : V.cell? ⟨w.heap.size, 2, none⟩ = some (.string o.f2) := blk_cell hd rfl
  have hdl := blk_lt hd
  obtain ⟨inner, hown0, hreps⟩ := h1.hrow
  obtain ⟨A0, C0, hvh⟩ := own_slice hown0
  have e10 : V.cell? ⟨sb, 10, none⟩ = some g.vh := blk_cell h1.blk rfl
  have hvh' : g.vh = .slice A0 g.rows.length C0 := hvh
  rw [hvh'] at e10
  have hown : V.ownsRow base 52 9 (.slice A0 g.rows.length C0) g.rows.length inner := by rw [← hvh']; exact hown0
  have hgl : g.rows.length ≤ 16777216 := by rw [h.hlen]; exact hL
  have hsb2 := blk_lt h1.blk
  have hne : ∀ b, (Value.slice A0 g.rows.length C0).ownBlock = some b → b ≠ sb := fun b q e => by
    obtain ⟨cells, q2⟩ := own_cells hown q
    have := h1.blk
    rw [← e, q2] at this
    injection this with this
    injection this with _ this _
    exact absurd this (by decide)
  obtain ⟨im, hi0, hz0, hz1, hz2⟩ := info_parts tinfoMoment
  have HIM := Lib.hid (And.intro hi0 (And.intro hz0 (And.intro hz1 hz2)))
  have HOW := Lib.hid hown
  have H1 := Lib.hid (And.intro h1 (And.intro hreps (And.intro hvh' hoV)))
  have HNE := Lib.hid (And.intro hne h1.blk)
  have hbV2 : base ≤ V.heap.size := by omega
  clear h hn hcbe ho hb hV hoV hc hbV hkV h1 hd hown0 hreps hvh hvh' hown hne hi0 hz0 hz1 hz2 c0 c1 z1 k0 k1 k2 s9 s10 kc
  go_region_law
    ((refine step_app _ (by rfl) _ _ _ (by rfl) base 52 im _ 9 120 Try.underlying39 HIM.out.1 HIM.out.2.1 HIM.out.2.2.1 HIM.out.2.2.2 rfl (by omega) (.slice A0 g.rows.length C0) g.rows.length inner (by rfl) ((HOW.out.alloc _).drew) V.heap.size 1 1 [.int .i64 n, .bool true, .int .i64 o.f0, .int .i64 o.f1, .string o.f2, .bool false, .string ⟨#[]⟩, .slice none 0 0, .slice none 0 0] 52 (0, 0) (by rfl) (new_blk _) (by rfl) (by simp [Value.oneCell']) (by unfold maxLen; omega) (by omega) (by simp; omega) ?_; intro A' C' w3 hown hgrow hat; have hs3 := blk_grown (w := (V.alloc (.cells #[.int .i64 n, .bool true, .int .i64 o.f0, .int .i64 o.f1, .string o.f2, .bool false, .string ⟨#[]⟩, .slice none 0 0, .slice none 0 0] 52)).drew) (blk_alloc HNE.out.2 _) hgrow (fun e => HNE.out.1 sb e.symm rfl); have j1 : w3.cell? ⟨sb, 10, none⟩ = some g.vh := blk_cell hs3 rfl; have j2 := blk_frozen hs3 10; have j3 := blk_lt hs3; have HW := Lib.hid (And.intro hown hgrow); clear hown hgrow hat hs3))
  all_goals (
    go_wp2_with fail
    go_end0
    obtain ⟨h, hn, hcbe, ho, hb⟩ := H.out
    obtain ⟨h1, hreps, hvh, hoV⟩ := H1.out
    obtain ⟨hown, hgrow⟩ := HW.out
    have hg2 : V.grownBy w3 g.vh.ownBlock := by rw [hvh]; exact alloc_grown ⟨hgrow.os, hgrow.tape, hgrow.output, hgrow.size, hgrow.block⟩
    have hp := h1.push (m := ⟨n, true, o, zRep⟩) (v7 := .slice none 0 0) (v8 := .slice none 0 0) (IR.nil _ _) (SR.nil _ _) hreps (A := A') (C := C') (fun b q => own_cells HOW.out (by rw [← hvh]; exact q)) hown hg2
    have q1 : Only w V fun b => base ≤ b := hoV.mono fun b _ q => by rw [q]; exact hbc
    have q2 := (q1.grown hg2 fun b q => .inl (by rw [hvh] at q; exact (HOW.out.lt b q).1)).setCell (p := ⟨sb, 10, none⟩) (.inl hbs) (.slice A' (g.rows.length + 1) C')
    rw [show stepP S n c o rest = ⟨S.cls.set n { c with begun := true }, S.lk, S.L, S.hist ++ [⟨n, true, o, zRep⟩]⟩ by simp [stepP, hb]]
    exact ⟨rfl, _, hp, rfl, q2⟩)
theorem StIs.fresh {w w1 : World} {base sb : Nat} {S : PSt} {g : Gh} (h : StIs w base sb S g) (hf : Fresh w w1) : StIs w1 base sb S g :=
  h.take (hf.mono fun _ _ q => q.elim) (hf.blk h.blk fun q => q)
set_option maxRecDepth 100000 in
set_option maxHeartbeats 2000000 in
theorem step_lock {w : World} {base sb : Nat} {S : PSt} {g : Gh} (h : StIs w base sb S g) {n : Nat} {c : PCl} (hn : S.cls[n]? = some c) {o : POp} {rest : List POp} (ho : c.ops = o :: rest) (hb : c.begun = true) (hr : c.reply = none) (h3 : o.f0 = 3) (h8 : c.lockd < 8) :
    Calls Try.prog 42 #[.pointer (some ⟨sb, 0, none⟩), .int .i64 n] w fun e w' => StepPost w w' e base sb (stepP S n c o rest) g := by
  have hc := h.cl n c hn
  have hni : n < S.cls.length := (List.getElem?_eq_some_iff.1 hn).1
  obtain ⟨ob, off, C, hvo, hC1, hC2, k0, k1, k2, _⟩ := hc.opcell ho
  have hcb := blk_lt hc.blk
  have hsb := blk_lt h.blk
  have hbc : base ≤ g.cb n := h.outC n hni
  have hbs : base ≤ sb := h.outS
  obtain ⟨gc, Cc, hvc, hnc, kc⟩ := rows_at h.crow (i := n) (x := .pointer (some ⟨g.cb n, 0, none⟩)) (by simp [hni])
  have s9 : w.cell? ⟨sb, 9, none⟩ = some g.vc := blk_cell h.blk rfl
  rw [hvc] at s9
  obtain ⟨cb, hcbe⟩ : ∃ cb, cb = g.cb n := ⟨_, rfl⟩
  obtain ⟨ld, hld⟩ : ∃ ld, ld = c.lockd := ⟨_, rfl⟩
  rw [← hcbe] at kc
  have hvr : g.vr n = .pointer none := by
    have := hc.rep
    rw [hr] at this
    exact this
  have c0 : w.cell? ⟨cb, 0, none⟩ = some (g.vo n) := by rw [hcbe]; exact blk_cell hc.blk rfl
  have c1 : w.cell? ⟨cb, 1, none⟩ = some (.bool true) := by rw [hcbe, ← hb]; exact blk_cell hc.blk rfl
  have c2 : w.cell? ⟨cb, 2, none⟩ = some (.int .i64 ld) := by rw [hcbe, hld]; exact blk_cell hc.blk rfl
  have c3 : w.cell? ⟨cb, 3, none⟩ = some (.pointer none) := by rw [hcbe, ← hvr]; exact blk_cell hc.blk rfl
  have z2 : w.frozen? ⟨cb, 2, none⟩ = false := by rw [hcbe]; exact blk_frozen hc.blk 2
  have s1 : w.cell? ⟨sb, 1 + ld, none⟩ = some (.bool (S.lk ld)) := h.lkc (by rw [hld]; exact h8)
  have y1 : w.frozen? ⟨sb, 1 + ld, none⟩ = false := blk_frozen h.blk (1 + ld)
  have hcs : cb ≠ sb := by rw [hcbe]; exact client_ne h hni
  rw [hvo] at c0
  rw [h3] at k0
  rw [← hcbe] at hcb
  have hr1 : (0 : Int) < ((rest.length + 1 : Nat) : Int) := by omega
  have l0 : (0 : Int) ≤ (n : Int) := by omega
  have l1 : (n : Int) < (S.cls.length : Int) := by omega
  have d0 : (0 : Int) ≤ (ld : Int) := by omega
  have d1 : (ld : Int) < 8 := by omega
  have d2 : ld < 8 := by omega
  have H := Lib.hid (And.intro h (And.intro hn (And.intro hcbe (And.intro ho (And.intro hb (And.intro hr (And.intro h3 (And.intro hld hbc))))))))
  have HR := Lib.hid (And.intro hsb (And.intro hcb hbs))
  clear hc hvo hn ho hb hcbe hvc h hr hvr h3 hld h8 hbc hbs
  go_enter Try.func42, Try.ntmps42
  go_upto_region 10 with fail
  go_region
  all_goals (
    go_wp2_with fail
    go_end0
    obtain ⟨h, hn, hcbe, ho, hb, hr, h3, hld, hbc⟩ := H.out
    obtain ⟨hsb, hcb, hbs⟩ := HR.out
    have h8 : c.lockd < 8 := by rw [← hld]; exact d2
    have hp1 := h.take (lk' := fun i => if i = ld then true else S.lk i) ((Only.refl w fun b => b = sb).setCell (p := ⟨sb, 1 + ld, none⟩) (.inl rfl) (.bool true)) (by rw [← stageC_set _ _ _ _ d2]; exact blk_set h.blk (1 + ld) _)
    have hc1 := hp1.cl n c hn
    have ho2 := (Only.refl (w.setCell ⟨sb, 1 + ld, none⟩ (.bool true)) fun b => b = g.cb n).setCell (p := ⟨cb, 2, none⟩) (.inl hcbe) (.int .i64 ((ld : Int) + 1))
    have hk2 := keep_of_only hc1.blk ho2
    have hb2 := blk_set hc1.blk 2 (.int .i64 ((ld : Int) + 1))
    rw [← hcbe] at hb2
    have hp2 := hp1.cli hn (c' := { c with lockd := c.lockd + 1 }) ho2 (vo' := g.vo n) (vr' := g.vr n) ⟨by rw [← hcbe, hb2, hld]; simp, hc1.ops.keepT hk2 (by decide), hc1.rep.keepT hk2 (by decide) (by decide) (by decide), by show c.lockd + 1 ≤ 8; omega⟩
    have hp3 := hp2.fresh ((alloc_only _ (.cells #[.int .i64 3, .int .i64 o.f1, .string o.f2] 23)).drew)
    rw [show stepP S n c o rest = ⟨S.cls.set n { c with lockd := c.lockd + 1 }, fun i => if i = ld then true else S.lk i, S.L, S.hist⟩ by simp [stepP, hb, hr, h3, h8, hld]]
    exact ⟨rfl, _, hp3, rfl, ((((Only.refl w fun b => base ≤ b).setCell (p := ⟨sb, 1 + ld, none⟩) (.inl hbs) _).setCell (p := ⟨cb, 2, none⟩) (.inl (by rw [hcbe]; exact hbc)) _).alloc _).drew⟩)
/-- a call that may be one -/
def OpOk (o : POp) : Prop := o.f0 = 1 ∨ o.f0 = 2 ∨ o.f0 = 3
set_option maxRecDepth 100000 in
set_option maxHeartbeats 2000000 in
theorem step_effect {w : World} {base sb : Nat} {S : PSt} {g : Gh} (h : StIs w base sb S g) {n : Nat} {c : PCl} (hn : S.cls[n]? = some c) {o : POp} {rest : List POp} (ho : c.ops = o :: rest) (hb : c.begun = true) (hr : c.reply = none) (h8 : o.f0 = 3 → c.lockd = 8) (hok : OpOk o) (hL : S.L.length ≤ 16777216) :
    Calls Try.prog 42 #[.pointer (some ⟨sb, 0, none⟩), .int .i64 n] w fun e w' => StepPost w w' e base sb (stepP S n c o rest) g := by
  have hc := h.cl n c hn
  have hni : n < S.cls.length := (List.getElem?_eq_some_iff.1 hn).1
  obtain ⟨ob, off, C, hvo, hC1, hC2, k0, k1, k2, _⟩ := hc.opcell ho
  have hcb := blk_lt hc.blk
  have hsb := blk_lt h.blk
  obtain ⟨gc, Cc, hvc, hnc, kc⟩ := rows_at h.crow (i := n) (x := .pointer (some ⟨g.cb n, 0, none⟩)) (by simp [hni])
  have s9 : w.cell? ⟨sb, 9, none⟩ = some g.vc := blk_cell h.blk rfl
  rw [hvc] at s9
  obtain ⟨cb, hcbe⟩ : ∃ cb, cb = g.cb n := ⟨_, rfl⟩
  rw [← hcbe] at kc
  have hvr : g.vr n = .pointer none := by
    have := hc.rep
    rw [hr] at this
    exact this
  have c0 : w.cell? ⟨cb, 0, none⟩ = some (g.vo n) := by rw [hcbe]; exact blk_cell hc.blk rfl
  have c1 : w.cell? ⟨cb, 1, none⟩ = some (.bool true) := by rw [hcbe, ← hb]; exact blk_cell hc.blk rfl
  have c2 : w.cell? ⟨cb, 2, none⟩ = some (.int .i64 c.lockd) := by rw [hcbe]; exact blk_cell hc.blk rfl
  have c3 : w.cell? ⟨cb, 3, none⟩ = some (.pointer none) := by rw [hcbe, ← hvr]; exact blk_cell hc.blk rfl
  rw [hvo] at c0
  rw [← hcbe] at hcb
  have hr1 : (0 : Int) < ((rest.length + 1 : Nat) : Int) := by omega
  have l0 : (0 : Int) ≤ (n : Int) := by omega
  have l1 : (n : Int) < (S.cls.length : Int) := by omega
  have hE : stepP S n c o rest = effectP S n c o := by
    have : ¬ (o.f0 = 3 ∧ c.lockd < 8) := fun q => by have := h8 q.1; omega
    simp [stepP, hb, hr, this]
  have hfr : ∀ W, Fresh w W → Calls Try.prog 62 #[.pointer (some ⟨sb, 0, none⟩), .pointer (some ⟨cb, 0, none⟩)] W fun e w' => EffPost W w' e base sb (effectP S n c o) g := fun W hW => by
    rw [hcbe]
    rcases hok with q | q | q
    · exact effect_pub (h.fresh hW) hn ho q
    · exact effect_look (h.fresh hW) hn ho q
    · exact effect_snap (h.fresh hW) hn ho q hL
  rw [hE]
  have HF := Lib.hid hfr
  have h3 : o.f0 = 3 ∨ o.f0 ≠ 3 := by omega
  have H8 := Lib.hid h8
  clear hc hvo hn ho hb hcbe hvc h hr hvr hfr hE hok h8
  rcases h3 with h3 | h3
  · rw [h3] at k0
    rw [H8.out h3] at c2
    clear h3 H8
    go_enter Try.func42, Try.ntmps42
    go_wp2_with fail
    refine (HF.out _ (alloc_only _ _)).mono ?_
    rintro e w1 ⟨rfl, g', q1, q2, q3, q4⟩
    have HX := Lib.hid (And.intro q1 (And.intro q2 q4))
    clear q1 q2 q3 q4
    go_wp2_with fail
    go_end0
    exact ⟨rfl, g', HX.out.1, HX.out.2.1, ((Only.refl w _).alloc _).trans' HX.out.2.2⟩
  · have h3D : (o.f0 == 3) = false := by simp [h3]
    clear h3 H8
    go_enter Try.func42, Try.ntmps42
    go_wp2_with fail
    refine (HF.out _ (alloc_only _ _)).mono ?_
    rintro e w1 ⟨rfl, g', q1, q2, q3, q4⟩
    have HX := Lib.hid (And.intro q1 (And.intro q2 q4))
    clear q1 q2 q3 q4
    go_wp2_with fail
    go_end0
    exact ⟨rfl, g', HX.out.1, HX.out.2.1, ((Only.refl w _).alloc _).trans' HX.out.2.2⟩
theorem OpsAt.tail1 {w : World} {ob off : Nat} {o : POp} {rest : List POp} (h : OpsAt w (.slice (some ⟨ob, off, none⟩) (rest.length + 1) 1) (o :: rest)) : OpsAt w (.slice (some ⟨ob, off, none⟩) rest.length 0) rest := by
  rcases h with ⟨_, q⟩ | ⟨ob', off', C', cells, h1, h2, h3, h4, h5⟩
  · cases q
  · injection h1 with e1 e2 e3
    cases e1
    subst e3
    simp only [List.length_cons] at h2
    have : rest = [] := List.eq_nil_of_length_eq_zero (by omega)
    subst this
    exact .inr ⟨ob, off, 0, cells, rfl, Nat.le_refl _, Nat.zero_le _, h4, fun j o' hj => by simp at hj⟩
theorem StIs.ended {w w3 : World} {base sb cb : Nat} {S : PSt} {g : Gh} (h : StIs w base sb S g) {n : Nat} {c : PCl} (hn : S.cls[n]? = some c) (hcb : cb = g.cb n) {rest : List POp} {m : PMo} {v7 v8 : Value} (hm2 : IR w base v7 m.f3.f2) (hm3 : SR w base v8 m.f3.f3)
    {inner : List Value} (hr : Reps (fun (r : List Value) cs => cs = r) 9 g.rows inner) {A : Option Addr} {C : Nat} (hg0 : ∀ b, g.vh.ownBlock = some b → ∃ cells, w.heap[b]? = some (.cells cells 52 (0, 0)))
    (hown : w3.ownsRow base 52 9 (.slice A (g.rows.length + 1) C) (g.rows.length + 1) (inner ++ moV m v7 v8)) (hg : w.grownBy w3 g.vh.ownBlock)
    {vo' : Value} (hvo : ∀ W, OpsAt W (g.vo n) c.ops → OpsAt W vo' rest) :
    ∃ g', StIs ((((w3.setCell ⟨sb, 10, none⟩ (.slice A (g.rows.length + 1) C)).setCell ⟨cb, 0, none⟩ vo').setCell ⟨cb, 1, none⟩ (.bool false)).setCell ⟨cb, 3, none⟩ (.pointer none)) base sb
      ⟨S.cls.set n { c with ops := rest, begun := false, reply := none }, S.lk, S.L, S.hist ++ [m]⟩ g' ∧ g'.cb = g.cb := by
  have hp := h.push hm2 hm3 hr hg0 hown hg
  subst hcb
  have hc := hp.cl n c hn
  have ho : Only (w3.setCell ⟨sb, 10, none⟩ (.slice A (g.rows.length + 1) C)) ((((w3.setCell ⟨sb, 10, none⟩ (.slice A (g.rows.length + 1) C)).setCell ⟨g.cb n, 0, none⟩ vo').setCell ⟨g.cb n, 1, none⟩ (.bool false)).setCell ⟨g.cb n, 3, none⟩ (.pointer none)) fun b => b = g.cb n :=
    (((Only.refl _ fun b => b = g.cb n).setCell (p := ⟨g.cb n, 0, none⟩) (.inl rfl) _).setCell (p := ⟨g.cb n, 1, none⟩) (.inl rfl) _).setCell (p := ⟨g.cb n, 3, none⟩) (.inl rfl) _
  have hk := keep_of_only hc.blk ho
  exact ⟨_, hp.cli hn (c' := { c with ops := rest, begun := false, reply := none }) (vo' := vo') (vr' := .pointer none) ho ⟨blk_set (blk_set (blk_set hc.blk 0 vo') 1 (.bool false)) 3 (.pointer none), hvo _ (hc.ops.keepT hk (by decide)), rfl, hc.small⟩, rfl⟩
set_option maxRecDepth 100000 in
set_option maxHeartbeats 2000000 in
theorem step_end1 {w : World} {base sb : Nat} {S : PSt} {g : Gh} (h : StIs w base sb S g) {n : Nat} {c : PCl} (hn : S.cls[n]? = some c) {o : POp} {rest : List POp} (ho : c.ops = o :: rest) (hb : c.begun = true) {r : PRep} (hr : c.reply = some r) (hL : S.hist.length ≤ 16777216) (hcap : ∀ ob off C, g.vo n = .slice (some ⟨ob, off, none⟩) (rest.length + 1) C → C = 1) :
    Calls Try.prog 42 #[.pointer (some ⟨sb, 0, none⟩), .int .i64 n] w fun e w' => StepPost w w' e base sb (stepP S n c o rest) g := by
  have hc := h.cl n c hn
  have hni : n < S.cls.length := (List.getElem?_eq_some_iff.1 hn).1
  obtain ⟨ob, off, C, hvo, hC1, hC2, k0, k1, k2, _⟩ := hc.opcell ho
  have hcb := blk_lt hc.blk
  have hsb := blk_lt h.blk
  have hbc : base ≤ g.cb n := h.outC n hni
  have hbs : base ≤ sb := h.outS
  obtain ⟨gc, Cc, hvc, hnc, kc⟩ := rows_at h.crow (i := n) (x := .pointer (some ⟨g.cb n, 0, none⟩)) (by simp [hni])
  have s9 : w.cell? ⟨sb, 9, none⟩ = some g.vc := blk_cell h.blk rfl
  have s10 : w.cell? ⟨sb, 10, none⟩ = some g.vh := blk_cell h.blk rfl
  rw [hvc] at s9
  obtain ⟨cb, hcbe⟩ : ∃ cb, cb = g.cb n := ⟨_, rfl⟩
  rw [← hcbe] at kc
  have c0 : w.cell? ⟨cb, 0, none⟩ = some (g.vo n) := by rw [hcbe]; exact blk_cell hc.blk rfl
  have hrp := hc.rep
  rw [hr] at hrp
  obtain ⟨rb, hvr, hrb, hv2, hv3⟩ := hrp
  have c3 : w.cell? ⟨cb, 3, none⟩ = some (g.vr n) := by rw [hcbe]; exact blk_cell hc.blk rfl
  rw [hvr] at c3
  have c1 : w.cell? ⟨cb, 1, none⟩ = some (.bool true) := by rw [hcbe, ← hb]; exact blk_cell hc.blk rfl
  have z1 : w.frozen? ⟨cb, 1, none⟩ = false := by rw [hcbe]; exact blk_frozen hc.blk 1
  have hcs : cb ≠ sb := by rw [hcbe]; exact client_ne h hni
  rw [hvo] at c0
  rw [← hcbe] at hcb
  have hr1 : (0 : Int) < ((rest.length + 1 : Nat) : Int) := by omega
  have l0 : (0 : Int) ≤ (n : Int) := by omega
  have l1 : (n : Int) < (S.cls.length : Int) := by omega
  have hC3 := hcap ob off C hvo
  clear hcap
  subst hC3
  have H := Lib.hid (And.intro h (And.intro hn (And.intro hcbe (And.intro ho (And.intro hb (And.intro hr (And.intro hvo (And.intro hrb (And.intro hv2 (And.intro hv3 hvr))))))))))
  clear hc hvo hn ho hb hcbe hvc h hr hvr hrb hv2 hv3
  obtain rfl : rest = [] := List.eq_nil_of_length_eq_zero (by omega)
  simp only [List.length_nil, Nat.zero_add] at c0 hr1 hC1
  go_enter Try.func42, Try.ntmps42
  go_upto_region 7 with fail
  refine nameW ?_
  intro V hV
  obtain ⟨h, hn, hcbe, ho, hb, hr, hvo, hrb, hv2, hv3, hvr⟩ := H.out
  have hoV : Only w V fun b => b = g.cb n := by
    rw [hV]
    exact (Only.refl w _).alloc _
  have hc := h.cl n c hn
  have hkF : KeepT w V fun _ => True := KeepT.fresh (by rw [hV]; exact alloc_only _ _)
  have hbV : V.heap[g.cb n]? = _ := (hkF _ _ _ hc.blk trivial).trans hc.blk
  have h1 := h.cli hn (c' := c) hoV ⟨hbV, hc.ops.keepT hkF trivial, hc.rep.keepT hkF trivial trivial trivial, hc.small⟩
  have hrV := (hkF _ _ _ hrb trivial).trans hrb
  obtain ⟨E2, e2, hs2⟩ := own_slice hv2
  obtain ⟨E3, e3, hs3'⟩ := own_slice hv3
  rw [hs2, hs3'] at hrV
  have r0 : V.cell? ⟨rb, 0, none⟩ = some (.bool r.f0) := blk_cell hrV rfl
  have r1 : V.cell? ⟨rb, 1, none⟩ = some (.string r.f1) := blk_cell hrV rfl
  have r2 : V.cell? ⟨rb, 2, none⟩ = some (.slice E2 r.f2.length e2) := blk_cell hrV rfl
  have r3 : V.cell? ⟨rb, 3, none⟩ = some (.slice E3 r.f3.length e3) := blk_cell hrV rfl
  have hrl := blk_lt hrV
  rw [hvo, hvr, hb] at hbV
  rw [← hcbe] at hbV
  have p0 : V.cell? ⟨cb, 0, none⟩ = some (.slice (some ⟨ob, off, none⟩) (1) 1) := blk_cell hbV rfl
  have p1 : V.cell? ⟨cb, 1, none⟩ = some (.bool true) := blk_cell hbV rfl
  have p3 : V.cell? ⟨cb, 3, none⟩ = some (.pointer (some ⟨rb, 0, none⟩)) := blk_cell hbV rfl
  have hcl := blk_lt hbV
  have hd : V.heap[w.heap.size]? = some (.cells #[.int .i64 o.f0, .int .i64 o.f1, .string o.f2] 23 (0, 0)) := by
    rw [hV]
    have := new_blk (w := w) (.cells #[.int .i64 o.f0, .int .i64 o.f1, .string o.f2] 23)
    simpa [World.setCell] using this
  have d0 : V.cell? ⟨w.heap.size, 0, none⟩ = some (.int .i64 o.f0) := blk_cell hd rfl
  have d1 : V.cell? ⟨w.heap.size, 1, none⟩ = some (.int .i64 o.f1) := blk_cell hd rfl
  have d2 : V.cell? ⟨w.heap.size, 2, none⟩ = some (.string o.f2) := blk_cell hd rfl
  have hdl := blk_lt hd
  obtain ⟨inner, hown0, hreps⟩ := h1.hrow
  obtain ⟨A0, C0, hvh⟩ := own_slice hown0
  have e10 : V.cell? ⟨sb, 10, none⟩ = some g.vh := blk_cell h1.blk rfl
  have hvh' : g.vh = .slice A0 g.rows.length C0 := hvh
  rw [hvh'] at e10
  have hown : V.ownsRow base 52 9 (.slice A0 g.rows.length C0) g.rows.length inner := by rw [← hvh']; exact hown0
  have hgl : g.rows.length ≤ 16777216 := by rw [h.hlen]; exact hL
  have hsb2 := blk_lt h1.blk
  have hne : ∀ b, (Value.slice A0 g.rows.length C0).ownBlock = some b → b ≠ sb := fun b q e => by
    obtain ⟨cells, q2⟩ := own_cells hown q
    have := h1.blk
    rw [← e, q2] at this
    injection this with this
    injection this with _ this _
    exact absurd this (by decide)
  obtain ⟨im, hi0, hz0, hz1, hz2⟩ := info_parts tinfoMoment
  have HIM := Lib.hid (And.intro hi0 (And.intro hz0 (And.intro hz1 hz2)))
  have HOW := Lib.hid hown
  have H1 := Lib.hid (And.intro h1 (And.intro hreps (And.intro hvh' hoV)))
  have hnc2 : ∀ b, (Value.slice A0 g.rows.length C0).ownBlock = some b → b ≠ cb := fun b q e => by
    obtain ⟨cells, q2⟩ := own_cells hown q
    rw [e, hbV] at q2
    injection q2 with q2
    injection q2 with _ q2 _
    exact absurd q2 (by decide)
  have HNE := Lib.hid (And.intro hne h1.blk)
  have HKF := Lib.hid hkF
  have HNC := Lib.hid (And.intro hnc2 hbV)
  have HSS := Lib.hid (And.intro hs2 hs3')
  have hbV2 : base ≤ V.heap.size := by omega
  clear h hn hcbe ho hb hV hoV hc hbV hkF h1 hd hown0 hreps hvh hvh' hown hne hi0 hz0 hz1 hz2 c0 c1 c3 z1 k0 k1 k2 s9 s10 kc hr hvo hrb hv2 hv3 hvr hrV hs2 hs3' hnc2
  go_region_law
    ((refine step_app _ (by rfl) _ _ _ (by rfl) base 52 im _ 9 120 Try.underlying39 HIM.out.1 HIM.out.2.1 HIM.out.2.2.1 HIM.out.2.2.2 rfl (by omega) (.slice A0 g.rows.length C0) g.rows.length inner (by rfl) ((HOW.out.alloc _).drew) V.heap.size 1 1 [.int .i64 n, .bool false, .int .i64 o.f0, .int .i64 o.f1, .string o.f2, .bool r.f0, .string r.f1, .slice E2 r.f2.length e2, .slice E3 r.f3.length e3] 52 (0, 0) (by rfl) (new_blk _) (by rfl) (by simp [Value.oneCell']) (by unfold maxLen; omega) (by omega) (by simp; omega) ?_; intro A' C' w3 hown hgrow hat; have hs3 := blk_grown (w := (V.alloc (.cells #[.int .i64 n, .bool false, .int .i64 o.f0, .int .i64 o.f1, .string o.f2, .bool r.f0, .string r.f1, .slice E2 r.f2.length e2, .slice E3 r.f3.length e3] 52)).drew) (blk_alloc HNE.out.2 _) hgrow (fun e => HNE.out.1 sb e.symm rfl); have j1 : w3.cell? ⟨sb, 10, none⟩ = some g.vh := blk_cell hs3 rfl; have j2 := blk_frozen hs3 10; have j3 := blk_lt hs3; have hs4 := blk_grown (w := (V.alloc (.cells #[.int .i64 n, .bool false, .int .i64 o.f0, .int .i64 o.f1, .string o.f2, .bool r.f0, .string r.f1, .slice E2 r.f2.length e2, .slice E3 r.f3.length e3] 52)).drew) (blk_alloc HNC.out.2 _) hgrow (fun e => HNC.out.1 cb e.symm rfl); have m0 : w3.cell? ⟨cb, 0, none⟩ = some (.slice (some ⟨ob, off, none⟩) (1) 1) := blk_cell hs4 rfl; have m1 : w3.cell? ⟨cb, 1, none⟩ = some (.bool true) := blk_cell hs4 rfl; have m3 : w3.cell? ⟨cb, 3, none⟩ = some (.pointer (some ⟨rb, 0, none⟩)) := blk_cell hs4 rfl; have m5 := blk_frozen hs4 0; have m6 := blk_frozen hs4 1; have m7 := blk_frozen hs4 3; have m8 := blk_lt hs4; have HW := Lib.hid (And.intro hown hgrow); clear hown hgrow hat hs3 hs4))
  all_goals (
    go_wp2_with fail
    go_end0
    obtain ⟨h, hn, hcbe, ho, hb, hr, hvo, hrb, hv2, hv3, hvr⟩ := H.out
    obtain ⟨h1, hreps, hvh, hoV⟩ := H1.out
    obtain ⟨hown, hgrow⟩ := HW.out
    obtain ⟨hs2, hs3⟩ := HSS.out
    have hg2 : V.grownBy w3 g.vh.ownBlock := by rw [hvh]; exact alloc_grown ⟨hgrow.os, hgrow.tape, hgrow.output, hgrow.size, hgrow.block⟩
    have hkF := HKF.out
    have hn1 : (S.cls.set n c)[n]? = some c := by rw [List.getElem?_set, if_pos rfl, if_pos hni]
    have q1 : Only w V fun b => base ≤ b := hoV.mono fun b _ q => by rw [q]; exact hbc
    have fin : ∀ vo', (∀ W, OpsAt W (g.vo n) c.ops → OpsAt W vo' []) → StepPost w ((((w3.setCell ⟨sb, 10, none⟩ (.slice A' (g.rows.length + 1) C')).setCell ⟨cb, 0, none⟩ vo').setCell ⟨cb, 1, none⟩ (.bool false)).setCell ⟨cb, 3, none⟩ (.pointer none)) (.returned (.tuple #[])) base sb (stepP S n c o []) g := by
      intro vo' hvo'
      obtain ⟨g', hp, hgc⟩ := h1.ended hn1 hcbe (rest := []) (m := ⟨n, false, o, r⟩) (v7 := .slice E2 r.f2.length e2) (v8 := .slice E3 r.f3.length e3) (by rw [← hs2]; exact row_keepT hv2 hkF trivial) (by rw [← hs3]; exact row_keepT hv3 hkF trivial) hreps (A := A') (C := C') (fun b q => own_cells HOW.out (by rw [← hvh]; exact q)) hown hg2
        (vo' := vo') (fun W q => by
          simp only [if_true] at q
          exact hvo' W q)
      have q2 := (((((q1.grown hg2 fun b q => .inl (by rw [hvh] at q; exact (HOW.out.lt b q).1)).setCell (p := ⟨sb, 10, none⟩) (.inl hbs) (.slice A' (g.rows.length + 1) C')).setCell (p := ⟨cb, 0, none⟩) (.inl (by rw [hcbe]; exact hbc)) vo').setCell (p := ⟨cb, 1, none⟩) (.inl (by rw [hcbe]; exact hbc)) (.bool false)).setCell (p := ⟨cb, 3, none⟩) (.inl (by rw [hcbe]; exact hbc)) (.pointer none))
      rw [show stepP S n c o [] = ⟨S.cls.set n { c with ops := [], begun := false, reply := none }, S.lk, S.L, S.hist ++ [⟨n, false, o, r⟩]⟩ by simp [stepP, hb, hr]]
      simp only [List.set_set] at hp
      exact ⟨rfl, g', hp, hgc, q2⟩
    first
      | exact fin _ (fun W q => by rw [hvo, ho] at q; exact q.tail)
      | exact fin _ (fun W q => by rw [hvo, ho] at q; exact q.tail1))
set_option maxRecDepth 100000 in
set_option maxHeartbeats 2000000 in
theorem step_end2 {w : World} {base sb : Nat} {S : PSt} {g : Gh} (h : StIs w base sb S g) {n : Nat} {c : PCl} (hn : S.cls[n]? = some c) {o : POp} {rest : List POp} (ho : c.ops = o :: rest) (hb : c.begun = true) {r : PRep} (hr : c.reply = some r) (hL : S.hist.length ≤ 16777216) (hcap : ∀ ob off C, g.vo n = .slice (some ⟨ob, off, none⟩) (rest.length + 1) C → 1 < C) :
    Calls Try.prog 42 #[.pointer (some ⟨sb, 0, none⟩), .int .i64 n] w fun e w' => StepPost w w' e base sb (stepP S n c o rest) g := by
  have hc := h.cl n c hn
  have hni : n < S.cls.length := (List.getElem?_eq_some_iff.1 hn).1
  obtain ⟨ob, off, C, hvo, hC1, hC2, k0, k1, k2, _⟩ := hc.opcell ho
  have hcb := blk_lt hc.blk
  have hsb := blk_lt h.blk
  have hbc : base ≤ g.cb n := h.outC n hni
  have hbs : base ≤ sb := h.outS
  obtain ⟨gc, Cc, hvc, hnc, kc⟩ := rows_at h.crow (i := n) (x := .pointer (some ⟨g.cb n, 0, none⟩)) (by simp [hni])
  have s9 : w.cell? ⟨sb, 9, none⟩ = some g.vc := blk_cell h.blk rfl
  have s10 : w.cell? ⟨sb, 10, none⟩ = some g.vh := blk_cell h.blk rfl
  rw [hvc] at s9
  obtain ⟨cb, hcbe⟩ : ∃ cb, cb = g.cb n := ⟨_, rfl⟩
  rw [← hcbe] at kc
  have c0 : w.cell? ⟨cb, 0, none⟩ = some (g.vo n) := by rw [hcbe]; exact blk_cell hc.blk rfl
  have hrp := hc.rep
  rw [hr] at hrp
  obtain ⟨rb, hvr, hrb, hv2, hv3⟩ := hrp
  have c3 : w.cell? ⟨cb, 3, none⟩ = some (g.vr n) := by rw [hcbe]; exact blk_cell hc.blk rfl
  rw [hvr] at c3
  have c1 : w.cell? ⟨cb, 1, none⟩ = some (.bool true) := by rw [hcbe, ← hb]; exact blk_cell hc.blk rfl
  have z1 : w.frozen? ⟨cb, 1, none⟩ = false := by rw [hcbe]; exact blk_frozen hc.blk 1
  have hcs : cb ≠ sb := by rw [hcbe]; exact client_ne h hni
  rw [hvo] at c0
  rw [← hcbe] at hcb
  have hr1 : (0 : Int) < ((rest.length + 1 : Nat) : Int) := by omega
  have l0 : (0 : Int) ≤ (n : Int) := by omega
  have l1 : (n : Int) < (S.cls.length : Int) := by omega
  have hC3 := hcap ob off C hvo
  clear hcap
  have H := Lib.hid (And.intro h (And.intro hn (And.intro hcbe (And.intro ho (And.intro hb (And.intro hr (And.intro hvo (And.intro hrb (And.intro hv2 (And.intro hv3 hvr))))))))))
  clear hc hvo hn ho hb hcbe hvc h hr hvr hrb hv2 hv3
  have hC4 : ¬ C = 1 := by omega
  have hC5 : ¬ C ≤ 1 := by omega
  go_enter Try.func42, Try.ntmps42
  go_upto_region 7 with fail
  refine nameW ?_
  intro V hV
  obtain ⟨h, hn, hcbe, ho, hb, hr, hvo, hrb, hv2, hv3, hvr⟩ := H.out
  have hoV : Only w V fun b => b = g.cb n := by
    rw [hV]
    exact (Only.refl w _).alloc _
  have hc := h.cl n c hn
  have hkF : KeepT w V fun _ => True := KeepT.fresh (by rw [hV]; exact alloc_only _ _)
  have hbV : V.heap[g.cb n]? = _ := (hkF _ _ _ hc.blk trivial).trans hc.blk
  have h1 := h.cli hn (c' := c) hoV ⟨hbV, hc.ops.keepT hkF trivial, hc.rep.keepT hkF trivial trivial trivial, hc.small⟩
  have hrV := (hkF _ _ _ hrb trivial).trans hrb
  obtain ⟨E2, e2, hs2⟩ := own_slice hv2
  obtain ⟨E3, e3, hs3'⟩ := own_slice hv3
  rw [hs2, hs3'] at hrV
  have r0 : V.cell? ⟨rb, 0, none⟩ = some (.bool r.f0) := blk_cell hrV rfl
  have r1 : V.cell? ⟨rb, 1, none⟩ = some (.string r.f1) := blk_cell hrV rfl
  have r2 : V.cell? ⟨rb, 2, none⟩ = some (.slice E2 r.f2.length e2) := blk_cell hrV rfl
  have r3 : V.cell? ⟨rb, 3, none⟩ = some (.slice E3 r.f3.length e3) := blk_cell hrV rfl
  have hrl := blk_lt hrV
  rw [hvo, hvr, hb] at hbV
  rw [← hcbe] at hbV
  have p0 : V.cell? ⟨cb, 0, none⟩ = some (.slice (some ⟨ob, off, none⟩) (rest.length + 1) C) := blk_cell hbV rfl
  have p1 : V.cell? ⟨cb, 1, none⟩ = some (.bool true) := blk_cell hbV rfl
  have p3 : V.cell? ⟨cb, 3, none⟩ = some (.pointer (some ⟨rb, 0, none⟩)) := blk_cell hbV rfl
  have hcl := blk_lt hbV
  have hd : V.heap[w.heap.size]? = some (.cells #[.int .i64 o.f0, .int .i64 o.f1, .string o.f2] 23 (0, 0)) := by
    rw [hV]
    have := new_blk (w := w) (.cells #[.int .i64 o.f0, .int .i64 o.f1, .string o.f2] 23)
    simpa [World.setCell] using this
  have d0 : V.cell? ⟨w.heap.size, 0, none⟩ = some (.int .i64 o.f0) := blk_cell hd rfl
  have d1 : V.cell? ⟨w.heap.size, 1, none⟩ = some (.int .i64 o.f1) := blk_cell hd rfl
  have d2 : V.cell? ⟨w.heap.size, 2, none⟩ = some (.string o.f2) := blk_cell hd rfl
  have hdl := blk_lt hd
  obtain ⟨inner, hown0, hreps⟩ := h1.hrow
  obtain ⟨A0, C0, hvh⟩ := own_slice hown0
  have e10 : V.cell? ⟨sb, 10, none⟩ = some g.vh := blk_cell h1.blk rfl
  have hvh' : g.vh = .slice A0 g.rows.length C0 := hvh
  rw [hvh'] at e10
  have hown : V.ownsRow base 52 9 (.slice A0 g.rows.length C0) g.rows.length inner := by rw [← hvh']; exact hown0
  have hgl : g.rows.length ≤ 16777216 := by rw [h.hlen]; exact hL
  have hsb2 := blk_lt h1.blk
  have hne : ∀ b, (Value.slice A0 g.rows.length C0).ownBlock = some b → b ≠ sb := fun b q e => by
    obtain ⟨cells, q2⟩ := own_cells hown q
    have := h1.blk
    rw [← e, q2] at this
    injection this with this
    injection this with _ this _
    exact absurd this (by decide)
  obtain ⟨im, hi0, hz0, hz1, hz2⟩ := info_parts tinfoMoment
  have HIM := Lib.hid (And.intro hi0 (And.intro hz0 (And.intro hz1 hz2)))
  have HOW := Lib.hid hown
  have H1 := Lib.hid (And.intro h1 (And.intro hreps (And.intro hvh' hoV)))
  have hnc2 : ∀ b, (Value.slice A0 g.rows.length C0).ownBlock = some b → b ≠ cb := fun b q e => by
    obtain ⟨cells, q2⟩ := own_cells hown q
    rw [e, hbV] at q2
    injection q2 with q2
    injection q2 with _ q2 _
    exact absurd q2 (by decide)
  have HNE := Lib.hid (And.intro hne h1.blk)
  have HKF := Lib.hid hkF
  have HNC := Lib.hid (And.intro hnc2 hbV)
  have HSS := Lib.hid (And.intro hs2 hs3')
  have hbV2 : base ≤ V.heap.size := by omega
  clear h hn hcbe ho hb hV hoV hc hbV hkF h1 hd hown0 hreps hvh hvh' hown hne hi0 hz0 hz1 hz2 c0 c1 c3 z1 k0 k1 k2 s9 s10 kc hr hvo hrb hv2 hv3 hvr hrV hs2 hs3' hnc2
  go_region_law
    ((refine step_app _ (by rfl) _ _ _ (by rfl) base 52 im _ 9 120 Try.underlying39 HIM.out.1 HIM.out.2.1 HIM.out.2.2.1 HIM.out.2.2.2 rfl (by omega) (.slice A0 g.rows.length C0) g.rows.length inner (by rfl) ((HOW.out.alloc _).drew) V.heap.size 1 1 [.int .i64 n, .bool false, .int .i64 o.f0, .int .i64 o.f1, .string o.f2, .bool r.f0, .string r.f1, .slice E2 r.f2.length e2, .slice E3 r.f3.length e3] 52 (0, 0) (by rfl) (new_blk _) (by rfl) (by simp [Value.oneCell']) (by unfold maxLen; omega) (by omega) (by simp; omega) ?_; intro A' C' w3 hown hgrow hat; have hs3 := blk_grown (w := (V.alloc (.cells #[.int .i64 n, .bool false, .int .i64 o.f0, .int .i64 o.f1, .string o.f2, .bool r.f0, .string r.f1, .slice E2 r.f2.length e2, .slice E3 r.f3.length e3] 52)).drew) (blk_alloc HNE.out.2 _) hgrow (fun e => HNE.out.1 sb e.symm rfl); have j1 : w3.cell? ⟨sb, 10, none⟩ = some g.vh := blk_cell hs3 rfl; have j2 := blk_frozen hs3 10; have j3 := blk_lt hs3; have hs4 := blk_grown (w := (V.alloc (.cells #[.int .i64 n, .bool false, .int .i64 o.f0, .int .i64 o.f1, .string o.f2, .bool r.f0, .string r.f1, .slice E2 r.f2.length e2, .slice E3 r.f3.length e3] 52)).drew) (blk_alloc HNC.out.2 _) hgrow (fun e => HNC.out.1 cb e.symm rfl); have m0 : w3.cell? ⟨cb, 0, none⟩ = some (.slice (some ⟨ob, off, none⟩) (rest.length + 1) C) := blk_cell hs4 rfl; have m1 : w3.cell? ⟨cb, 1, none⟩ = some (.bool true) := blk_cell hs4 rfl; have m3 : w3.cell? ⟨cb, 3, none⟩ = some (.pointer (some ⟨rb, 0, none⟩)) := blk_cell hs4 rfl; have m5 := blk_frozen hs4 0; have m6 := blk_frozen hs4 1; have m7 := blk_frozen hs4 3; have m8 := blk_lt hs4; have HW := Lib.hid (And.intro hown hgrow); clear hown hgrow hat hs3 hs4))
  all_goals (
    go_wp2_with fail
    go_end0
    obtain ⟨h, hn, hcbe, ho, hb, hr, hvo, hrb, hv2, hv3, hvr⟩ := H.out
    obtain ⟨h1, hreps, hvh, hoV⟩ := H1.out
    obtain ⟨hown, hgrow⟩ := HW.out
    obtain ⟨hs2, hs3⟩ := HSS.out
    have hg2 : V.grownBy w3 g.vh.ownBlock := by rw [hvh]; exact alloc_grown ⟨hgrow.os, hgrow.tape, hgrow.output, hgrow.size, hgrow.block⟩
    have hkF := HKF.out
    have hn1 : (S.cls.set n c)[n]? = some c := by rw [List.getElem?_set, if_pos rfl, if_pos hni]
    have q1 : Only w V fun b => base ≤ b := hoV.mono fun b _ q => by rw [q]; exact hbc
    have fin : ∀ vo', (∀ W, OpsAt W (g.vo n) c.ops → OpsAt W vo' rest) → StepPost w ((((w3.setCell ⟨sb, 10, none⟩ (.slice A' (g.rows.length + 1) C')).setCell ⟨cb, 0, none⟩ vo').setCell ⟨cb, 1, none⟩ (.bool false)).setCell ⟨cb, 3, none⟩ (.pointer none)) (.returned (.tuple #[])) base sb (stepP S n c o rest) g := by
      intro vo' hvo'
      obtain ⟨g', hp, hgc⟩ := h1.ended hn1 hcbe (rest := rest) (m := ⟨n, false, o, r⟩) (v7 := .slice E2 r.f2.length e2) (v8 := .slice E3 r.f3.length e3) (by rw [← hs2]; exact row_keepT hv2 hkF trivial) (by rw [← hs3]; exact row_keepT hv3 hkF trivial) hreps (A := A') (C := C') (fun b q => own_cells HOW.out (by rw [← hvh]; exact q)) hown hg2
        (vo' := vo') (fun W q => by
          simp only [if_true] at q
          exact hvo' W q)
      have q2 := (((((q1.grown hg2 fun b q => .inl (by rw [hvh] at q; exact (HOW.out.lt b q).1)).setCell (p := ⟨sb, 10, none⟩) (.inl hbs) (.slice A' (g.rows.length + 1) C')).setCell (p := ⟨cb, 0, none⟩) (.inl (by rw [hcbe]; exact hbc)) vo').setCell (p := ⟨cb, 1, none⟩) (.inl (by rw [hcbe]; exact hbc)) (.bool false)).setCell (p := ⟨cb, 3, none⟩) (.inl (by rw [hcbe]; exact hbc)) (.pointer none))
      rw [show stepP S n c o rest = ⟨S.cls.set n { c with ops := rest, begun := false, reply := none }, S.lk, S.L, S.hist ++ [⟨n, false, o, r⟩]⟩ by simp [stepP, hb, hr]]
      simp only [List.set_set] at hp
      exact ⟨rfl, g', hp, hgc, q2⟩
    first
      | exact fin _ (fun W q => by rw [hvo, ho] at q; exact q.tail)
      | exact fin _ (fun W q => by rw [hvo, ho] at q; exact q.tail1))
theorem step_end {w : World} {base sb : Nat} {S : PSt} {g : Gh} (h : StIs w base sb S g) {n : Nat} {c : PCl} (hn : S.cls[n]? = some c) {o : POp} {rest : List POp} (ho : c.ops = o :: rest) (hb : c.begun = true) {r : PRep} (hr : c.reply = some r) (hL : S.hist.length ≤ 16777216) :
    Calls Try.prog 42 #[.pointer (some ⟨sb, 0, none⟩), .int .i64 n] w fun e w' => StepPost w w' e base sb (stepP S n c o rest) g := by
  obtain ⟨ob, off, C, hvo, hC1, _⟩ := (h.cl n c hn).opcell ho
  by_cases hC : C = 1
  · exact step_end1 h hn ho hb hr hL fun ob' off' C' q => by
      rw [hvo] at q
      injection q with _ _ q
      omega
  · exact step_end2 h hn ho hb hr hL fun ob' off' C' q => by
      rw [hvo] at q
      injection q with _ _ q
      omega
/-- a step, whichever -/
theorem step_walk {w : World} {base sb : Nat} {S : PSt} {g : Gh} (h : StIs w base sb S g) {n : Nat} {c : PCl} (hn : S.cls[n]? = some c) {o : POp} {rest : List POp} (ho : c.ops = o :: rest) (hok : OpOk o) (hH : S.hist.length ≤ 16777216) (hL : S.L.length ≤ 16777216) :
    Calls Try.prog 42 #[.pointer (some ⟨sb, 0, none⟩), .int .i64 n] w fun e w' => StepPost w w' e base sb (stepP S n c o rest) g := by
  cases hb : c.begun with
  | false => exact step_begin h hn ho hb hH
  | true =>
    cases hr : c.reply with
    | some r => exact step_end h hn ho hb hr hH
    | none =>
      by_cases h3 : o.f0 = 3 ∧ c.lockd < 8
      · exact step_lock h hn ho hb hr h3.1 h3.2
      · refine step_effect h hn ho hb hr (fun q => ?_) hok hL
        have := (h.cl n c hn).small
        omega
/-- can client i go on? -/
def canAt (S : PSt) (i : Nat) : Bool := match S.cls[i]? with | some c => canB S c | none => false
/-- those of the first i that can -/
def readyTo (S : PSt) (i : Nat) : List Int := ((List.range i).filter (canAt S)).map fun n => ((n : Nat) : Int)
/-- the first of them behind last; -1: there is none -/
def roundTo (S : PSt) (last : Int) (i : Nat) : Int := ((readyTo S i).find? fun n => decide (last < n)).getD (-1)
/-- who is next; what is left of the script -/
def pickP (S : PSt) (scr : List Int) (last : Int) : Int × List Int :=
  if readyTo S S.cls.length = [] then (-1, scr)
  else match scr with
    | k :: t => ((readyTo S S.cls.length)[(k % ((readyTo S S.cls.length).length : Int)).toNat]?.getD 0, t)
    | [] => (if roundTo S last S.cls.length < 0 then (readyTo S S.cls.length)[0]?.getD 0 else roundTo S last S.cls.length, [])
theorem readyTo_succ (S : PSt) (i : Nat) : readyTo S (i + 1) = readyTo S i ++ if canAt S i = true then [(i : Int)] else [] := by
  unfold readyTo
  rw [List.range_succ, List.filter_append, List.map_append]
  congr 1
  by_cases h : canAt S i = true
  · simp [h]
  · simp [h]
theorem readyTo_mem {S : PSt} {i : Nat} {x : Int} (h : x ∈ readyTo S i) : ∃ n : Nat, x = n ∧ n < i ∧ canAt S n = true := by
  unfold readyTo at h
  obtain ⟨n, hn, rfl⟩ := List.mem_map.1 h
  obtain ⟨h1, h2⟩ := List.mem_filter.1 hn
  exact ⟨n, rfl, List.mem_range.1 h1, h2⟩
theorem readyTo_len (S : PSt) (i : Nat) : (readyTo S i).length ≤ i := by
  unfold readyTo
  rw [List.length_map]
  have := List.length_filter_le (canAt S) (List.range i)
  rw [List.length_range] at this
  exact this
theorem roundTo_bd (S : PSt) (last : Int) (i : Nat) : -1 ≤ roundTo S last i ∧ roundTo S last i < i + 1 := by
  unfold roundTo
  cases h : (readyTo S i).find? fun n => decide (last < n) with
  | none => simp; omega
  | some x =>
    obtain ⟨n, rfl, h1, _⟩ := readyTo_mem (List.mem_of_find?_eq_some h)
    simp; omega
theorem roundTo_no {S : PSt} {last : Int} {i : Nat} (h : canAt S i = false) : roundTo S last (i + 1) = roundTo S last i := by
  unfold roundTo
  rw [readyTo_succ, if_neg (by simp [h]), List.append_nil]
theorem roundTo_old {S : PSt} {last : Int} {i : Nat} (h : ¬ roundTo S last i < 0) : roundTo S last (i + 1) = roundTo S last i := by
  unfold roundTo at h ⊢
  rw [readyTo_succ, List.find?_append]
  cases q : (readyTo S i).find? fun n => decide (last < n) with
  | none => rw [q] at h; exact absurd (by decide) h
  | some x => rfl
theorem roundTo_new {S : PSt} {last : Int} {i : Nat} (h : roundTo S last i < 0) (hc : canAt S i = true) : roundTo S last (i + 1) = if last < (i : Int) then (i : Int) else roundTo S last i := by
  unfold roundTo at h ⊢
  rw [readyTo_succ, List.find?_append, if_pos hc]
  cases q : (readyTo S i).find? fun n => decide (last < n) with
  | none =>
    by_cases hl : last < (i : Int)
    · simp [hl]
    · simp [hl]
  | some x =>
    rw [q] at h
    obtain ⟨n, rfl, h1, _⟩ := readyTo_mem (List.mem_of_find?_eq_some q)
    simp at h
    omega
/-- a script's numbers, in memory that was there before -/
def ScrIs (w : World) (base : Nat) (v : Value) (l : List Int) : Prop :=
  (l = [] ∧ ∃ A C, v = .slice A 0 C) ∨
  ∃ ib off C, v = .slice (some ⟨ib, off, none⟩) l.length C ∧ l.length ≤ C ∧ C ≤ 9223372036854775807 ∧ ib < base ∧ ∀ (j : Nat) (x : Int), l[j]? = some x → w.cell? ⟨ib, off + j, none⟩ = some (.int .i64 x)
theorem ScrIs.keep {w w' : World} {base base' : Nat} {v : Value} {l : List Int} (h : ScrIs w base v l) (hb : base ≤ w.heap.size) (ho : Only w w' fun b => base' ≤ b) (hbb : base ≤ base') : ScrIs w' base v l := by
  rcases h with q | ⟨ib, off, C, h1, h2, h3, h4, h5⟩
  · exact .inl q
  · exact .inr ⟨ib, off, C, h1, h2, h3, h4, fun j x hj => (ho.cell (p := ⟨ib, off + j, none⟩) (by show ib < _; omega) (by show ¬ base' ≤ ib; omega)).trans (h5 j x hj)⟩
theorem ScrIs.tail {w : World} {base ib off C : Nat} {k : Int} {t : List Int} (h : ScrIs w base (.slice (some ⟨ib, off, none⟩) (t.length + 1) C) (k :: t)) : ScrIs w base (.slice (some ⟨ib, off + 1, none⟩) t.length (C - 1)) t := by
  rcases h with ⟨q, _⟩ | ⟨ib', off', C', h1, h2, h3, h4, h5⟩
  · cases q
  · injection h1 with e1 e2 e3
    cases e1
    subst e3
    simp only [List.length_cons] at h2
    refine .inr ⟨ib, off + 1, C - 1, rfl, by omega, by omega, h4, fun j x hj => ?_⟩
    have := h5 (j + 1) x (by simpa using hj)
    rw [show off + 1 + j = off + (j + 1) by omega]
    exact this
theorem ScrIs.tail1 {w : World} {base ib off : Nat} {k : Int} {t : List Int} (h : ScrIs w base (.slice (some ⟨ib, off, none⟩) (t.length + 1) 1) (k :: t)) : ScrIs w base (.slice (some ⟨ib, off, none⟩) t.length 0) t := by
  rcases h with ⟨q, _⟩ | ⟨ib', off', C', h1, h2, h3, h4, h5⟩
  · cases q
  · injection h1 with e1 e2 e3
    cases e1
    subst e3
    simp only [List.length_cons] at h2
    have : t = [] := List.eq_nil_of_length_eq_zero (by omega)
    subst this
    exact .inr ⟨ib, off, 0, rfl, Nat.le_refl _, Nat.zero_le _, h4, fun j o' hj => by simp at hj⟩
/-- the stage stays where a block of another type turns -/
theorem StIs.keepT {w w' : World} {base sb : Nat} {S : PSt} {g : Gh} {ts : Nat → Prop} (h : StIs w base sb S g) (hk : KeepT w w' ts) (hm : ∀ i, i < 8 → w'.heap[g.bm i]? = w.heap[g.bm i]?) (hs : w.heap.size ≤ w'.heap.size)
    (h1 : ts 100) (h2 : ts 96) (h3 : ts 52) (h4 : ts 23) (h5 : ts 50) (h6 : ts 3) (h7 : ts 9) (h8 : ts 97) (h9 : ts 89) (h10 : ts 127) : StIs w' base sb S g :=
  ⟨(hk _ _ _ h.blk h2).trans h.blk, h.tab.keepT hk h9 h10 hm hs, h.rising, row_keepT h.crow hk h8, fun i c hc => by
    have q := h.cl i c hc
    exact ⟨(hk _ _ _ q.blk h1).trans q.blk, q.ops.keepT hk h4, q.rep.keepT hk h5 h6 h7, q.small⟩,
    h.cinj, OutRowT.keepT h.hrow hk h3, h.hlen, fun j m q q4 q5 => (h.hmem j m q q4 q5).keepT hk h6 h7, h.many, h.outS, h.outT, h.outC⟩
theorem StIs.other {w w' : World} {base sb : Nat} {S : PSt} {g : Gh} (h : StIs w base sb S g) {pb : Nat} {cells : Array Value} (hb : w.heap[pb]? = some (.cells cells 27 (0, 0))) (ho : Only w w' fun b => b = pb) : StIs w' base sb S g :=
  h.keepT (keep_of_only hb ho) (fun i hi => ho.block _ (h.tab.maps i hi).lt fun e => by
    obtain ⟨es, ck, q, _⟩ := h.tab.maps i hi
    rw [e, hb] at q
    cases q) ho.size (by decide) (by decide) (by decide) (by decide) (by decide) (by decide) (by decide) (by decide) (by decide) (by decide)
/-- what pick leaves: its answer; the script that is left, in its box -/
def PickPost (w w' : World) (e : Ending) (base pb : Nat) (r : Int × List Int) : Prop :=
  e = .returned (.int .i64 r.1) ∧ (∃ v', w'.heap[pb]? = some (.cells #[v'] 27 (0, 0)) ∧ ScrIs w' base v' r.2) ∧ Only w w' fun b => b = pb
theorem tmod_turn (k : Int) (m : Nat) (hm : 0 < m) (hm2 : m ≤ 64) : (wrap64 (k.tmod (m : Int) + (m : Int))).tmod (m : Int) = (((k % (m : Int)).toNat : Nat) : Int) := by
  have h1 : k.tmod (m : Int) < (m : Int) := Int.tmod_lt_of_pos k (by omega)
  have h2 : -(m : Int) < k.tmod (m : Int) := by
    have := Int.tmod_lt_of_pos (-k) (b := (m : Int)) (by omega)
    rw [Int.neg_tmod] at this
    omega
  have h3 : wrap64 (k.tmod (m : Int) + (m : Int)) = k.tmod (m : Int) + (m : Int) := by unfold wrap64; omega
  have h4 := Int.tmod_add_mul_tdiv k (m : Int)
  rw [h3, Int.tmod_eq_emod_of_nonneg (by omega), Int.add_emod_right]
  have h5 : k % (m : Int) = k.tmod (m : Int) % (m : Int) := by
    conv => lhs; rw [← h4]
    rw [Int.add_mul_emod_self_left]
  have h6 := Int.emod_nonneg k (b := (m : Int)) (by omega)
  rw [← h5]
  omega
set_option maxRecDepth 100000 in
set_option maxHeartbeats 2000000 in
theorem pick_walk {w : World} {base bs sb pb : Nat} {S : PSt} {g : Gh} (h : StIs w base sb S g) (vs : Value) (scr : List Int) (last : Int) (hp : w.heap[pb]? = some (.cells #[vs] 27 (0, 0))) (hs : ScrIs w bs vs scr) (hbs : bs ≤ pb) :
    Calls Try.prog 41 #[.pointer (some ⟨sb, 0, none⟩), .pointer (some ⟨pb, 0, none⟩), .int .i64 last] w fun e w' => PickPost w w' e bs pb (pickP S scr last) := by
  obtain ⟨i0, hin, hz0', hz1', hz2'⟩ := info_parts rinfoInt
  have HIN := Lib.hid (And.intro hin (And.intro hz0' (And.intro hz1' hz2')))
  have hpb := blk_lt hp
  have hsb := blk_lt h.blk
  have hmn := h.many
  obtain ⟨Ac, Cc, hvc⟩ := own_slice h.crow
  have s9 : w.cell? ⟨sb, 9, none⟩ = some g.vc := blk_cell h.blk rfl
  rw [hvc] at s9
  have p0 : w.cell? ⟨pb, 0, none⟩ = some vs := blk_cell hp rfl
  have z0 : w.frozen? ⟨pb, 0, none⟩ = false := blk_frozen hp 0
  have H := Lib.hid (And.intro h (And.intro hp (And.intro hs hvc)))
  clear hin hz0' hz1' hz2' h hp hs hvc
  go_enter Try.func41, Try.ntmps41
  go_wp2_with fail
  go_loopw [7, 8, 18] (fun s7 s8 s18 wr => ∃ (i : Nat) (A : Option Addr) (C : Nat), i ≤ S.cls.length ∧ s7 = .slice A (readyTo S i).length C ∧ s8 = .int .i64 (roundTo S last i) ∧ s18 = .int .i64 i ∧ KRow w wr (.slice A (readyTo S i).length C) (readyTo S i) ∧ Fresh w wr) (fun _ _ s18 _ => S.cls.length - (intOf s18).toNat)
  case atStart => exact ⟨0, none, 0, Nat.zero_le _, rfl, rfl, rfl, ⟨rfl, .inl ⟨rfl, rfl⟩⟩, Only.refl _ _⟩
  case round =>
    obtain ⟨i, A, C, hi, rfl, rfl, rfl, hrow, hf⟩ := hrel
    have hsz := hf.size
    have hrl := readyTo_len S i
    have hrb := roundTo_bd S last i
    generalize hrd : roundTo S last i = rd at *
    generalize hrs : readyTo S i = rs at *
    generalize hm : rs.length = m at *
    have HRD := Lib.hid (And.intro hrd (And.intro hrs hm))
    have HK := Lib.hid (And.intro hrow hf)
    clear hrow hf hrd hrs hm
    by_cases hlt : i < S.cls.length
    · obtain ⟨c, hc⟩ : ∃ c, S.cls[i]? = some c := ⟨_, List.getElem?_eq_getElem hlt⟩
      have hca : canAt S i = canB S c := by unfold canAt; rw [hc]
      obtain ⟨b, hb⟩ : ∃ b, b = canB S c := ⟨_, rfl⟩
      have hcw := can_walk (H.out.1.fresh HK.out.2) hc
      rw [← hb] at hcw hca
      obtain ⟨gc, Cc', hvc', _, kc⟩ := rows_at (H.out.1.fresh HK.out.2).crow (i := i) (x := .pointer (some ⟨g.cb i, 0, none⟩)) (by simp [hlt])
      have hAc : Ac = some ⟨gc, 0, none⟩ := by
        have := H.out.2.2.2
        rw [hvc'] at this
        injection this with this
        exact this.symm
      have HCW := Lib.hid hcw
      have HCA := Lib.hid hca
      clear hcw hca hb hc hvc'
      subst hAc
      have l0 : (0 : Int) ≤ (i : Int) := by omega
      have l1 : (i : Int) < (S.cls.length : Int) := by omega
      have hrow' : ∀ W, Fresh wr W → W.ownsRow w.heap.size 3 1 (.slice A m C) m (intsV rs) := fun W hW => by
        have := row_fresh HK.out.1 hW
        rwa [HRD.out.2.2] at this
      have HRW := Lib.hid hrow'
      clear hrow'
      cases b with
      | false =>
        go_wp2_with fail
        refine HCW.out.mono ?_
        rintro e w5 ⟨rfl, mm, rfl⟩
        go_wp2_with fail
        go_roundw
        case rel =>
          obtain ⟨e1, e2, e3⟩ := HRD.out
          have r1 : readyTo S (i + 1) = rs := by rw [readyTo_succ, e2, HCA.out]; simp
          exact ⟨i + 1, A, C, by omega, by rw [r1, e3], by rw [roundTo_no HCA.out, e1], by go_num, by rw [r1, e3]; exact row_fresh HK.out.1 ((Only.refl _ _).drewN _), HK.out.2.drewN _⟩
        case measure => simp [intOf]; omega
      | true =>
        have hc3 : (rd < 0 ∧ last < (i : Int)) ∨ (rd < 0 ∧ ¬ last < (i : Int)) ∨ ¬ rd < 0 := by omega
        rcases hc3 with ⟨q1, q2⟩ | ⟨q1, q2⟩ | q1
        all_goals (
          go_wp2_with fail
          refine HCW.out.mono ?_
          rintro e w5 ⟨rfl, mm, rfl⟩
          go_wp2_with (at_builtin; (refine wpl_app _ rfl _ _ 27 rfl w.heap.size 3 i0 (.int .i64 0) 1 8 Try.underlying27 HIN.out.1 HIN.out.2.1 HIN.out.2.2.1 HIN.out.2.2.2 rfl (by decide) (.slice A m C) m (intsV rs) rfl (HRW.out _ (by repeat (first | exact Only.refl _ _ | refine Only.drewN ?_ _ | refine Only.alloc ?_ _))) wr.heap.size 1 1 [.int .i64 i] 3 (0, 0) rfl (new_blk _) rfl (by simp [Value.oneCell']) (by unfold maxLen; omega) (by omega) (by simp; omega) ?_); intro A4 C4 w4 hown hgrow hat; have HW := Lib.hid (And.intro hown hgrow); clear hown hgrow hat)
          go_roundw
          case rel =>
            obtain ⟨e1, e2, e3⟩ := HRD.out
            have r1 : readyTo S (i + 1) = rs ++ [(i : Int)] := by rw [readyTo_succ, e2, if_pos HCA.out]
            have r2 : (readyTo S (i + 1)).length = m + 1 := by rw [r1]; simp [e3]
            refine ⟨i + 1, A4, C4, by omega, by rw [r2], ?_, by go_num, ?_, ?_⟩
            · rw [← e1] at q1
              first
                | (rw [roundTo_new q1 HCA.out, if_pos (by omega)])
                | (rw [roundTo_new q1 HCA.out, if_neg (by omega), e1])
                | (rw [roundTo_old (by omega), e1])
            · have := HW.out.1
              rw [show intsV rs ++ [Value.int .i64 (i : Int)] = intsV (readyTo S (i + 1)) by rw [r1]; simp [intsV]] at this
              rw [r2]
              show w4.ownsRow _ _ _ _ _ _
              rw [r2]
              exact this
            · refine Only.grown (w1 := _) ?_ HW.out.2 fun g hg => .inr ((HRW.out _ (Only.refl _ _)).lt g hg).1
              repeat (first | exact HK.out.2 | refine Only.drewN ?_ _ | refine Only.alloc ?_ _)
          case measure => simp [intOf]; omega)
    · obtain rfl : i = S.cls.length := by omega
      have q0 : wr.cell? ⟨pb, 0, none⟩ = some vs := (HK.out.2.cell (p := ⟨pb, 0, none⟩) hpb (fun q => q)).trans p0
      have y0 : wr.frozen? ⟨pb, 0, none⟩ = false := blk_frozen (HK.out.2.blk H.out.2.1 fun q => q) 0
      have hpb2 : pb < wr.heap.size := by omega
      have hrow' : wr.ownsRow w.heap.size 3 1 (.slice A m C) m (intsV rs) := by
        have := row_fresh HK.out.1 (Only.refl wr _)
        rwa [HRD.out.2.2] at this
      by_cases hm0 : m = 0
      · subst hm0
        have hD : ((0 : Nat) : Int) = 0 := rfl
        clear hrow'
        go_wp2_with fail
        go_ret
        obtain ⟨e1, e2, e3⟩ := HRD.out
        have e4 : pickP S scr last = (-1, scr) := by unfold pickP; rw [e2, if_pos (List.eq_nil_of_length_eq_zero e3)]
        rw [e4]
        exact ⟨rfl, ⟨vs, HK.out.2.blk H.out.2.1 fun q => q, H.out.2.2.1.keep (by omega) (HK.out.2.mono fun _ _ q => q.elim) (Nat.le_refl _)⟩, HK.out.2.mono fun _ _ q => q.elim⟩
      · have hmI : (0 : Int) < (m : Int) := by omega
        have hmD : ((m : Int) == 0) = false := by simp; omega
        obtain ⟨x0, hx0⟩ : ∃ x0, rs[0]? = some x0 := ⟨_, List.getElem?_eq_getElem (by rw [HRD.out.2.2]; omega)⟩
        obtain ⟨gr, cr, he, kr0, _⟩ := own_cell (i := 0) (x := .int .i64 x0) hrow' (by simp [intsV, hx0])
        injection he with he _ _
        subst he
        cases hsc : scr with
        | nil =>
          obtain ⟨Av, Cv, rfl⟩ : ∃ Av Cv, vs = .slice Av 0 Cv := by
            rcases H.out.2.2.1 with ⟨_, _, _, q⟩ | ⟨ib, off, Cq, q, _⟩
            · exact ⟨_, _, q⟩
            · rw [hsc] at q; exact ⟨_, _, q⟩
          have hrc : rd < 0 ∨ ¬ rd < 0 := by omega
          have HSC := Lib.hid hsc
          clear hsc hrow'
          rcases hrc with hrc | hrc
          all_goals (
            go_wp2_with fail
            go_ret
            obtain ⟨e1, e2, e3⟩ := HRD.out
            have e4 : pickP S scr last = (if rd < 0 then x0 else rd, []) := by
              unfold pickP
              rw [e1, e2, if_neg (fun q => by rw [q] at e3; simp at e3; omega), HSC.out, hx0]
              rfl
            rw [e4]
            refine ⟨?_, ⟨_, HK.out.2.blk H.out.2.1 fun q => q, ?_⟩, HK.out.2.mono fun _ _ q => q.elim⟩
            · first | (rw [if_pos hrc]; rfl) | (rw [if_neg (by omega)]; rfl)
            · have := H.out.2.2.1.keep (base' := bs) (by omega) (HK.out.2.mono fun _ _ q => q.elim) (Nat.le_refl _)
              rwa [HSC.out] at this)
        | cons k t =>
          have HSC := Lib.hid hsc
          rcases H.out.2.2.1 with ⟨q, _⟩ | ⟨ib, off, C2, rfl, hl2, hC2, hib, hcells⟩
          · rw [hsc] at q; cases q
          rw [hsc] at hl2 hcells
          simp only [List.length_cons] at hl2
          have kk : wr.cell? ⟨ib, off, none⟩ = some (.int .i64 k) := by
            have := hcells 0 k rfl
            exact (HK.out.2.cell (p := ⟨ib, off, none⟩) (by show ib < _; omega) (fun q => q)).trans this
          have hlen : scr.length = t.length + 1 := by rw [hsc]; rfl
          rw [hlen] at q0
          have ht1 : (0 : Int) < ((t.length + 1 : Nat) : Int) := by omega
          obtain ⟨q, hq⟩ : ∃ q : Nat, q = (k % (m : Int)).toNat := ⟨_, rfl⟩
          have hqm : q < m := by
            have h6 := Int.emod_nonneg k (b := (m : Int)) (by omega)
            have h7 := Int.emod_lt_of_pos k (b := (m : Int)) (by omega)
            omega
          have hX := tmod_turn k m (by omega) (by omega)
          rw [← hq] at hX
          obtain ⟨xq, hxq⟩ : ∃ xq, rs[q]? = some xq := ⟨_, List.getElem?_eq_getElem (by rw [HRD.out.2.2]; omega)⟩
          obtain ⟨gr2, cr2, he2, krq, _⟩ := own_cell (i := q) (x := .int .i64 xq) hrow' (by simp [intsV, hxq])
          injection he2 with he2 _ _
          injection he2 with he2
          injection he2 with he2 _ _
          subst he2
          have hgp : gr ≠ pb := by
            have := (hrow'.lt gr rfl).1
            omega
          have q00 : (0 : Int) ≤ (q : Int) := by omega
          have q01 : (q : Int) < (m : Int) := by omega
          have HQ := Lib.hid (And.intro hq hxq)
          have hC3 : C2 = 1 ∨ 1 < C2 := by omega
          clear hsc hrow' hcells hlen hq hxq
          rcases hC3 with hC3 | hC3
          · have ht0 : t = [] := List.eq_nil_of_length_eq_zero (by omega)
            subst ht0
            subst hC3
            simp only [List.length_nil, Nat.zero_add] at q0 ht1
            go_wp2_with fail
            go_ret
            obtain ⟨e1, e2, e3⟩ := HRD.out
            have e4 : pickP S scr last = (xq, []) := by
              unfold pickP
              rw [e2, if_neg (fun q => by rw [q] at e3; simp at e3; omega), HSC.out, e3]
              show (rs[(k % (m : Int)).toNat]?.getD 0, _) = _
              rw [← HQ.out.1, HQ.out.2]
              rfl
            rw [e4]
            refine ⟨rfl, ⟨_, blk_set (HK.out.2.blk H.out.2.1 fun q => q) 0 _, ?_⟩, (HK.out.2.mono (S' := fun b => b = pb) fun _ _ q => q.elim).setCell (p := ⟨pb, 0, none⟩) (.inl rfl) _⟩
            have h7 := H.out.2.2.1
            rw [HSC.out] at h7
            exact (h7.tail1.keep (base' := bs) (by omega) (HK.out.2.mono fun _ _ q => q.elim) (Nat.le_refl _)).keep (base' := bs) (by omega) ((Only.refl wr _).setCell (p := ⟨pb, 0, none⟩) (.inl hbs) _) (Nat.le_refl _)
          · have hC4 : ¬ C2 = 1 := by omega
            go_wp2_with fail
            go_ret
            obtain ⟨e1, e2, e3⟩ := HRD.out
            have e4 : pickP S scr last = (xq, t) := by
              unfold pickP
              rw [e2, if_neg (fun q => by rw [q] at e3; simp at e3; omega), HSC.out, e3]
              show (rs[(k % (m : Int)).toNat]?.getD 0, _) = _
              rw [← HQ.out.1, HQ.out.2]
              rfl
            rw [e4]
            refine ⟨rfl, ⟨_, blk_set (HK.out.2.blk H.out.2.1 fun q => q) 0 _, ?_⟩, (HK.out.2.mono (S' := fun b => b = pb) fun _ _ q => q.elim).setCell (p := ⟨pb, 0, none⟩) (.inl rfl) _⟩
            have h7 := H.out.2.2.1
            rw [HSC.out] at h7
            exact (h7.tail.keep (base' := bs) (by omega) (HK.out.2.mono fun _ _ q => q.elim) (Nat.le_refl _)).keep (base' := bs) (by omega) ((Only.refl wr _).setCell (p := ⟨pb, 0, none⟩) (.inl hbs) _) (Nat.le_refl _)
end Go.Proofs.Ytihjpbalkjhjbaa
