/- Steps towards the law (texts of this seat, put into one). No conditions of its own beyond those that its theorems name. -/
import Derived.Maps.Keyed
import Derived.Below
import Derived.OwnWalk
import Derived.Deep.Draws
import Derived.Laws.AppendOwn
import Derived.MapKept
import Derived.Maps.AppendAt
import Derived.Deep.AppendLies
import Derived.RegionTactic
import Derived.RowKit2
import Derived.WalkKit
import Derived.WalkSpells
import Derived.WalkSmall
import Derived.Test.YtfahoomkpammiaaZC0
import Derived.BigQuiet
import Derived.Lib.Hide
import Derived.Lib.SlicesS
import Derived.LoopTactic
import Derived.StillTailTactics
import Derived.RangeFuncNested
import Derived.RangeFuncBound
import Derived.RangeFuncCalls
import Derived.RangeFuncLeaves
import Derived.RangeFuncBox
import Derived.Shelf.Abstract
import Derived.Shelf.RegionOpen
import Derived.OwnWalkIn
import Derived.TacticsInMore
import Derived.LoopNIn
import Derived.LoopIn
import Derived.BigGuardPartIn
import Derived.Laws.MakeOwn
import Derived.RangeFuncWrites
import Derived.Test.YtfahoomkpammiaaProg
import Derived.OrdersHeld
import Derived.OrdersIn
import Derived.Deep.RegionLaw
namespace Go.Proofs.Ytfahoomkpammiaa
open Go.RowKit Go.MapKept
/-! ### 1. the frame: what lies outside S is as it was -/
structure Only (w w' : World) (S : Nat → Prop) : Prop where
  os : w'.os = w.os
  tape : w'.tape = w.tape
  output : w'.output = w.output
  size : w.heap.size ≤ w'.heap.size
  block : ∀ k, k < w.heap.size → ¬ S k → w'.heap[k]? = w.heap[k]?
section
variable {w w1 w2 : World} {S S' : Nat → Prop}
theorem Only.refl (w : World) (S : Nat → Prop) : Only w w S := ⟨rfl, rfl, rfl, Nat.le_refl _, fun _ _ _ => rfl⟩
theorem Only.trans (h : Only w w1 S) (k : Only w1 w2 S') (hs : ∀ b, S' b → S b ∨ w.heap.size ≤ b) : Only w w2 S :=
  ⟨k.os.trans h.os, k.tape.trans h.tape, k.output.trans h.output, Nat.le_trans h.size k.size, fun b hb hn =>
    (k.block b (Nat.lt_of_lt_of_le hb h.size) (fun q => by rcases hs b q with q | q; exact hn q; omega)).trans (h.block b hb hn)⟩
theorem Only.mono (h : Only w w1 S) (hs : ∀ b, b < w.heap.size → S b → S' b) : Only w w1 S' :=
  ⟨h.os, h.tape, h.output, h.size, fun b hb hn => h.block b hb (fun q => hn (hs b hb q))⟩
theorem Only.trans' (h : Only w w1 S) (k : Only w1 w2 S) : Only w w2 S := h.trans k fun _ q => .inl q
theorem Only.drew (h : Only w w1 S) : Only w w1.drew S := ⟨h.os, h.tape, h.output, h.size, h.block⟩
theorem Only.drewN (h : Only w w1 S) (n : Nat) : Only w (w1.drewN n) S := ⟨h.os, h.tape, h.output, h.size, h.block⟩
theorem Only.alloc (h : Only w w1 S) (o : Obj) : Only w (w1.alloc o) S :=
  ⟨h.os, h.tape, h.output, Nat.le_trans h.size (by simp), fun b hb hn => (Below.heap_alloc w1 o b (Nat.lt_of_lt_of_le hb h.size)).trans (h.block b hb hn)⟩
theorem Only.setCell (h : Only w w1 S) {p : Addr} (hp : S p.block ∨ w.heap.size ≤ p.block) (u : Value) : Only w (w1.setCell p u) S :=
  ⟨h.os, h.tape, h.output, by simpa [World.setCell] using h.size, fun b hb hn => (Below.heap_setCell w1 p u b (by
    rintro rfl
    rcases hp with hp | hp
    · exact hn hp
    · omega)).trans (h.block b hb hn)⟩
theorem Only.grown {row : Option Nat} (h : Only w w1 S) (hg : w1.grownBy w2 row) (hr : ∀ g, row = some g → S g ∨ w.heap.size ≤ g) : Only w w2 S :=
  ⟨hg.os.trans h.os, hg.tape.trans h.tape, hg.output.trans h.output, Nat.le_trans h.size hg.size, fun b hb hn =>
    (hg.block b (Nat.lt_of_lt_of_le hb h.size) (fun e => by
      rcases hr b e.symm with q | q
      · exact hn q
      · omega)).trans (h.block b hb hn)⟩
theorem Only.below (h : Only w w1 S) {B : Nat} (hB : B ≤ w.heap.size) (hs : ∀ b, S b → B ≤ b) : Below B w w1 :=
  ⟨h.os, h.tape, h.output, h.size, fun b hb => h.block b (by omega) (fun q => by have := hs b q; omega)⟩
theorem Only.of_below {B : Nat} (h : Below B w w1) (hs : ∀ b, B ≤ b → b < w.heap.size → S b) : Only w w1 S :=
  ⟨h.os, h.tape, h.output, h.size, fun b hb hn => h.block b (by
    rcases Nat.lt_or_ge b B with q | q
    · exact q
    · exact absurd (hs b q hb) hn)⟩
theorem Only.of_grown {row : Option Nat} (hg : w.grownBy w1 row) (hr : ∀ g, row = some g → S g) : Only w w1 S := (Only.refl w S).grown hg fun g e => .inl (hr g e)
theorem Only.cell (h : Only w w1 S) {p : Addr} (hp : p.block < w.heap.size) (hn : ¬ S p.block) : w1.cell? p = w.cell? p := World.cell?_of_block (w := w) (h.block p.block hp hn)
theorem Only.row {base : Nat} {e : TypeId} {size n : Nat} {v : Value} {xs : List Value} (h : Only w w1 S) (hr : w.ownsRow base e size v n xs) (hn : ∀ g, v.ownBlock = some g → ¬ S g) : w1.ownsRow base e size v n xs := by
  refine ⟨hr.1, ?_⟩
  rcases hr.2 with hh | ⟨g, cap, cur, rfl, hb, hgg, rest⟩
  · exact .inl hh
  · refine .inr ⟨g, cap, cur, rfl, hb, ?_, rest⟩
    rw [h.block g (Array.getElem?_eq_some_iff.1 hgg).1 (hn g rfl)]
    exact hgg
theorem Only.blk (h : Only w w1 S) {g : Nat} {o : Obj} (hg : w.heap[g]? = some o) (hn : ¬ S g) : w1.heap[g]? = some o :=
  (h.block g (Array.getElem?_eq_some_iff.1 hg).1 hn).trans hg
end
/-! ### 2. a map keyed by ints -/
/-- the entries, as a function -/
def isAt (k : Int) : Value → Bool
  | .int .i64 n => decide (n = k)
  | _ => false
theorem isAt_iff {k : Int} {v : Value} : isAt k v = true ↔ v = .int .i64 k := by
  unfold isAt
  split
  · simp
  · rename_i h
    constructor
    · intro q; cases q
    · intro q; exact absurd q (h k)
def look : List MapEntry → Int → Option Value
  | [], _ => none
  | e :: es, k => if isAt k e.key = true then some e.val else look es k
theorem look_none {l : List MapEntry} {k : Int} (h : ∀ x ∈ l, x.key ≠ .int .i64 k) : look l k = none := by
  induction l with
  | nil => rfl
  | cons e l ih => rw [look, if_neg (fun q => h e (by simp) (isAt_iff.1 q))]; exact ih fun x hx => h x (by simp [hx])
theorem look_some {l : List MapEntry} {k : Int} (hd : (l.map (·.key)).Nodup) : ∀ {e : MapEntry}, e ∈ l → e.key = .int .i64 k → look l k = some e.val := by
  induction l with
  | nil => intro e h; cases h
  | cons a l ih =>
    intro e he hk
    simp only [List.map_cons, List.nodup_cons] at hd
    rw [look]
    rcases List.mem_cons.1 he with rfl | he
    · rw [if_pos (isAt_iff.2 hk)]
    · rw [if_neg (fun q => hd.1 (by rw [isAt_iff.1 q, ← hk]; exact List.mem_map.2 ⟨e, he, rfl⟩))]
      exact ih hd.2 he hk
theorem look_mem {l : List MapEntry} {k : Int} {v : Value} (h : look l k = some v) : ∃ e ∈ l, e.key = .int .i64 k ∧ e.val = v := by
  induction l with
  | nil => cases h
  | cons a l ih =>
    rw [look] at h
    split at h
    · rename_i hk
      exact ⟨a, by simp, isAt_iff.1 hk, by simpa using h⟩
    · obtain ⟨e, he, h1, h2⟩ := ih h
      exact ⟨e, by simp [he], h1, h2⟩
/-- block b of w is a map keyed by ints that answers f -/
def IMap (w : World) (b : Nat) (f : Int → Option Value) : Prop :=
  ∃ es clock, w.heap[b]? = some (.map es clock) ∧ Stamped es clock ∧ (∀ x ∈ es.toList, IsKey (.int .i64) x.key) ∧ ∀ k, look es.toList k = f k
theorem isKey_form {v : Value} (h : IsKey (.int .i64) v) : ∃ k, v = .int .i64 k := by
  cases v <;> simp_all [IsKey]
theorem IMap.lt {w : World} {b : Nat} {f : Int → Option Value} (h : IMap w b f) : b < w.heap.size := by
  obtain ⟨es, clock, hb, _⟩ := h
  exact (Array.getElem?_eq_some_iff.1 hb).1
theorem IMap.of_block {w w1 : World} {b : Nat} {f : Int → Option Value} (h : IMap w b f) (hb : w1.heap[b]? = w.heap[b]?) : IMap w1 b f := by
  obtain ⟨es, clock, h1, h2⟩ := h
  exact ⟨es, clock, hb.trans h1, h2⟩
theorem IMap.made (w : World) : IMap (w.alloc (.map #[] 0)) w.heap.size fun _ => none :=
  ⟨#[], 0, heap_alloc_new w _, stamped_empty 0, by simp, fun _ => rfl⟩
theorem IMap.only {w w1 : World} {S : Nat → Prop} {b : Nat} {f : Int → Option Value} (h : IMap w b f) (ho : Only w w1 S) (hn : ¬ S b) : IMap w1 b f := h.of_block (ho.block b h.lt hn)
/-- block b holds another object; all else is as it was -/
def Turned (w w1 : World) (b : Nat) : Prop := w1.os = w.os ∧ w1.tape = w.tape ∧ w1.output = w.output ∧ w1.heap.size = w.heap.size ∧ ∀ k, k ≠ b → w1.heap[k]? = w.heap[k]?
theorem Turned.only {w w1 : World} {b : Nat} {S : Nat → Prop} (h : Turned w w1 b) (hs : S b) : Only w w1 S :=
  ⟨h.1, h.2.1, h.2.2.1, by rw [h.2.2.2.1]; exact Nat.le_refl _, fun k _ hk => h.2.2.2.2 k (fun e => hk (e ▸ hs))⟩
theorem Turned.cell {w w1 : World} {b : Nat} (h : Turned w w1 b) {p : Addr} (hp : p.block ≠ b) : w1.cell? p = w.cell? p := World.cell?_of_block (w := w) (h.2.2.2.2 _ hp)
theorem Turned.frozen {w w1 : World} {b : Nat} (h : Turned w w1 b) {p : Addr} (hp : p.block ≠ b) : w1.frozen? p = w.frozen? p := World.frozen?_of_block (w := w) (h.2.2.2.2 _ hp)
theorem turned_set {w : World} {b : Nat} {o o' : Obj} (hb : w.heap[b]? = some o) : Turned w { w with heap := w.heap.setIfInBounds b o' } b :=
  ⟨rfl, rfl, rfl, by simp, fun k hk => (heap_set hb).2 k hk⟩
section
variable {P : Program} {w : World} {b : Nat} {f : Int → Option Value} {t K E : TypeId} (ht : P.underlying t = some (.map K E)) (hK : P.underlying K = some (.int .i64))
include ht hK
theorem IMap.run_lookup2 (h : IMap w b f) (z : Value) (hz : (zeroValue E).run P w = .ok z w) (k : Int) :
    (Instr.lookup t (.map (some b)) (.int .i64 k) true).run P w = .ok (.tuple #[(f k).getD z, .bool (f k).isSome]) w := by
  obtain ⟨es, clock, hb, hs, hk, hf⟩ := h
  have hkey : IsKey (.int .i64) (.int .i64 k) := rfl
  rcases findNow_spec hkey es.toList 0 hk with ⟨h1, h2⟩ | ⟨j, e, h1, h2, h3⟩
  · have : f k = none := by rw [← hf k]; exact look_none h2
    simp [Instr.lookup, run_underlying ht, Go.MapKept.run_getObj_map hb, run_checkKey hK hkey, run_findKey hK h1, hz, Result.andThen, this]
  · have : f k = some e.val := by rw [← hf k]; exact look_some hs.2.2 (List.mem_of_getElem? h2) h3
    simp [Instr.lookup, run_underlying ht, Go.MapKept.run_getObj_map hb, run_checkKey hK hkey, run_findKey hK h1, Result.andThen, this]
theorem IMap.run_update (h : IMap w b f) (k : Int) (v : Value) :
    ∃ w1, (Instr.mapUpdate t (.map (some b)) (.int .i64 k) v).run P w = .ok () w1 ∧ IMap w1 b (fun j => if j = k then some v else f j) ∧ Turned w w1 b ∧ w1.drawn = w.drawn := by
  obtain ⟨es, clock, hb, hs, hk, hf⟩ := h
  have hkey : IsKey (.int .i64) (.int .i64 k) := rfl
  rcases findNow_spec hkey es.toList 0 hk with ⟨h1, h2⟩ | ⟨j, e, h1, h2, h3⟩
  · refine ⟨_, by simp [Instr.mapUpdate, run_underlying ht, Go.MapKept.run_getObj_map hb, run_checkKey hK hkey, run_findKey hK h1, Go.MapKept.run_setObj_map _ hb, Result.andThen]; rfl, ?_, turned_set hb, rfl⟩
    refine ⟨_, _, (heap_set hb).1, stamped_push hs h2, ?_, fun q => ?_⟩
    · intro x hx
      simp only [Array.toList_push, List.mem_append, List.mem_singleton] at hx
      rcases hx with hx | rfl
      · exact hk x hx
      · exact hkey
    · dsimp only
      rw [← hf q]
      have hp := stamped_push (val := v) hs h2
      by_cases hq : q = k
      · subst hq
        rw [if_pos rfl]
        exact look_some (e := { key := .int .i64 q, val := v, born := clock }) hp.2.2 (by simp) rfl
      · rw [if_neg hq]
        cases hl : look es.toList q with
        | none =>
          refine look_none fun x hx => ?_
          simp only [Array.toList_push, List.mem_append, List.mem_singleton] at hx
          rcases hx with hx | rfl
          · intro e
            rw [look_some hs.2.2 hx e] at hl
            cases hl
          · intro e
            injection e with _ e
            exact hq e.symm
        | some u =>
          obtain ⟨e, he, h1, h2⟩ := look_mem hl
          rw [← h2]
          exact look_some hp.2.2 (by simp [he]) h1
  · have hj : es[j]? = some e := by simpa using h2
    refine ⟨_, by simp [Instr.mapUpdate, run_underlying ht, Go.MapKept.run_getObj_map hb, run_checkKey hK hkey, run_findKey hK h1, hj, h3, run_keyThatStays hkey, Go.MapKept.run_setObj_map _ hb, Result.andThen]; rfl, ?_, turned_set hb, rfl⟩
    have hk' : ∀ e', es[j]? = some e' → ({ e' with key := .int .i64 k, val := v } : MapEntry).key = e'.key := fun e' he' => by rw [hj] at he'; cases he'; exact h3.symm
    have hst := stamped_modify hs j (fun e => { e with key := .int .i64 k, val := v }) (fun _ _ => rfl) (fun e' _ he' => hk' e' he')
    refine ⟨_, _, (heap_set hb).1, hst, isKey_modify hk _ _ hk', fun q => ?_⟩
    dsimp only
    rw [← hf q]
    have hmem : ∀ x, x ∈ (es.modify j fun e => { e with key := .int .i64 k, val := v }).toList ↔ ∃ i, (if i = j then (es[i]?).map (fun e => { e with key := .int .i64 k, val := v }) else es[i]?) = some x := by
      intro x
      rw [Array.mem_toList_iff, Array.mem_iff_getElem?]
      simp only [Array.getElem?_modify]
      have hsw : ∀ i, (if j = i then (es[i]?).map (fun e => ({ e with key := .int .i64 k, val := v } : MapEntry)) else es[i]?) = (if i = j then (es[i]?).map (fun e => { e with key := .int .i64 k, val := v }) else es[i]?) := by
        intro i
        by_cases hij : i = j
        · rw [if_pos hij, if_pos hij.symm]
        · rw [if_neg hij, if_neg (fun q => hij q.symm)]
      simp only [hsw]
    by_cases hq : q = k
    · subst hq
      rw [if_pos rfl]
      exact look_some (e := { e with key := .int .i64 q, val := v }) hst.2.2 ((hmem _).2 ⟨j, by simp [hj]⟩) rfl
    · rw [if_neg hq]
      cases hl : look es.toList q with
      | none =>
        refine look_none fun x hx he => ?_
        obtain ⟨i, hi⟩ := (hmem x).1 hx
        split at hi
        · rename_i hij
          subst hij
          rw [hj] at hi
          simp only [Option.map_some, Option.some.injEq] at hi
          subst hi
          injection he with _ he
          exact hq he.symm
        · rw [look_some hs.2.2 (Array.mem_toList_iff.2 (Array.mem_of_getElem? hi)) he] at hl
          cases hl
      | some u =>
        obtain ⟨e', he', h1', h2'⟩ := look_mem hl
        rw [← h2']
        obtain ⟨i, hi⟩ := List.mem_iff_getElem?.1 he'
        have hi' : es[i]? = some e' := by simpa using hi
        refine look_some hst.2.2 ((hmem e').2 ⟨i, ?_⟩) h1'
        rw [if_neg, hi']
        rintro rfl
        rw [hj] at hi'
        cases hi'
        rw [h3] at h1'
        injection h1' with _ h1'
        exact hq h1'.symm
theorem IMap.run_delete (h : IMap w b f) (ty : TypeId) (t' : TypeId) (k : Int) :
    ∃ w1, (Builtin.delete_ #[t, t'] ty #[.map (some b), .int .i64 k]).run P w = .ok (.tuple #[]) w1 ∧ IMap w1 b (fun j => if j = k then none else f j) ∧ Turned w w1 b ∧ w1.drawn = w.drawn := by
  obtain ⟨es, clock, hb, hs, hk, hf⟩ := h
  have hkey : IsKey (.int .i64) (.int .i64 k) := rfl
  rcases findNow_spec hkey es.toList 0 hk with ⟨h1, h2⟩ | ⟨j, e, h1, h2, h3⟩
  · refine ⟨_, by simp [Builtin.delete_, run_underlying ht, Go.MapKept.run_getObj_map hb, run_checkKey hK hkey, run_findKey hK h1, Go.MapKept.run_setObj_map _ hb, Result.andThen]; rfl, ?_, turned_set hb, rfl⟩
    refine ⟨_, _, (heap_set hb).1, hs, hk, fun q => ?_⟩
    dsimp only
    by_cases hq : q = k
    · subst hq
      rw [if_pos rfl]
      exact look_none h2
    · rw [if_neg hq]
      exact hf q
  · have hj : es[j]? = some e := by simpa using h2
    refine ⟨_, by simp [Builtin.delete_, run_underlying ht, Go.MapKept.run_getObj_map hb, run_checkKey hK hkey, run_findKey hK h1, Go.MapKept.run_setObj_map _ hb, Result.andThen]; rfl, ?_, turned_set hb, rfl⟩
    have hjlt : j < es.size := (Array.getElem?_eq_some_iff.1 hj).1
    have hl : (es.eraseIdxIfInBounds j).toList = es.toList.eraseIdx j := by
      unfold Array.eraseIdxIfInBounds
      rw [dif_pos hjlt]
      simp
    have hst := stamped_erase hs j
    have hsub : ∀ x, x ∈ es.toList.eraseIdx j → x ∈ es.toList := fun x hx => (List.eraseIdx_sublist _ _).subset hx
    refine ⟨_, _, (heap_set hb).1, hst, fun x hx => hk x (hsub x (by rw [← hl]; exact hx)), fun q => ?_⟩
    dsimp only
    rw [hl]
    have hnd : (es.toList.eraseIdx j).map (·.key) |>.Nodup := by rw [← hl]; exact hst.2.2
    have hperm : es.toList.Perm (e :: es.toList.eraseIdx j) := by
      obtain ⟨hj', he⟩ := List.getElem?_eq_some_iff.1 h2
      have e1 : es.toList = es.toList.take j ++ e :: es.toList.drop (j + 1) := by
        rw [← he, List.getElem_cons_drop, List.take_append_drop]
      have e2 : es.toList.eraseIdx j = es.toList.take j ++ es.toList.drop (j + 1) := List.eraseIdx_eq_take_drop_succ _ _
      rw [e2]
      refine (List.Perm.of_eq e1).trans ?_
      exact List.perm_middle
    have hnot : ∀ x ∈ es.toList.eraseIdx j, x.key ≠ .int .i64 k := by
      intro x hx hxk
      have hn : ((e :: es.toList.eraseIdx j).map (·.key)).Nodup := (hperm.map _).nodup_iff.1 hs.2.2
      simp only [List.map_cons, List.nodup_cons] at hn
      exact hn.1 (by rw [h3, ← hxk]; exact List.mem_map.2 ⟨x, hx, rfl⟩)
    by_cases hq : q = k
    · subst hq
      rw [if_pos rfl]
      exact look_none hnot
    · rw [if_neg hq, ← hf q]
      cases hlq : look es.toList q with
      | none =>
        refine look_none fun x hx he => ?_
        rw [look_some hs.2.2 (hsub x hx) he] at hlq
        cases hlq
      | some u =>
        obtain ⟨e', he', h1', h2'⟩ := look_mem hlq
        rw [← h2']
        refine look_some hnd ?_ h1'
        rcases List.mem_cons.1 (hperm.mem_iff.1 he') with rfl | hm
        · rw [h3] at h1'
          injection h1' with _ h1'
          exact absurd h1'.symm hq
        · exact hm
end
/-- a size that no list here passes -/
def Lim : Nat := 1099511627776
section
variable {w w1 : World}
theorem blk_lt {p : Nat} {x : Obj} (h : w.heap[p]? = some x) : p < w.heap.size := (Array.getElem?_eq_some_iff.1 h).1
theorem own_slice {base : Nat} {e : TypeId} {size n : Nat} {v : Value} {xs : List Value} (h : w.ownsRow base e size v n xs) : ∃ a c, v = .slice a n c := by
  rcases h.2 with ⟨rfl, rfl⟩ | ⟨g, cap, cur, rfl, _⟩ <;> exact ⟨_, _, rfl⟩
theorem own_map (A : Option Addr) (n c : Nat) : (Value.slice A n c).ownBlock = A.map Addr.block := by cases A <;> rfl
theorem own_lt {base : Nat} {e : TypeId} {size n : Nat} {v : Value} {xs : List Value} (h : w.ownsRow base e size v n xs) {g : Nat} (hg : v.ownBlock = some g) : g < w.heap.size := (h.lt g hg).2
theorem blk_alloc {p : Nat} {x : Obj} (h : w.heap[p]? = some x) (o : Obj) : (w.alloc o).heap[p]? = some x := (Below.heap_alloc w o p (blk_lt h)).trans h
theorem blk_far {p : Nat} {x : Obj} (h : w.heap[p]? = some x) {a : Addr} (hne : p ≠ a.block) (u : Value) : (w.setCell a u).heap[p]? = some x := (Below.heap_setCell w a u p hne).trans h
theorem blk_set {p : Nat} {cs : Array Value} {t : TypeId} {fr : Nat × Nat} (h : w.heap[p]? = some (.cells cs t fr)) (i : Nat) (u : Value) : (w.setCell ⟨p, i, none⟩ u).heap[p]? = some (.cells (cs.setIfInBounds i u) t fr) := by
  simp [World.setCell, Array.getElem?_modify, h]
theorem blk_grown {p : Nat} {x : Obj} {row : Option Nat} (h : w.heap[p]? = some x) (hg : w.grownBy w1 row) (hne : some p ≠ row) : w1.heap[p]? = some x := (hg.block p (blk_lt h) hne).trans h
theorem blk_cell {p : Nat} {cs : Array Value} {t : TypeId} (h : w.heap[p]? = some (.cells cs t (0, 0))) {i : Nat} {x : Value} (hx : cs[i]? = some x) : w.cell? ⟨p, i, none⟩ = some x := (cell_of_row w p i _ _ _ h).trans hx
theorem blk_frozen {p : Nat} {cs : Array Value} {t : TypeId} (h : w.heap[p]? = some (.cells cs t (0, 0))) (i : Nat) : w.frozen? ⟨p, i, none⟩ = false := by simp [World.frozen?, h]
theorem new_blk (o : Obj) : (w.alloc o).heap[w.heap.size]? = some o := heap_alloc_new w o
theorem own_far {base : Nat} {e : TypeId} {size n : Nat} {v : Value} {xs : List Value} (h : w.ownsRow base e size v n xs) {a : Addr} (ha : v.ownBlock ≠ some a.block) (u : Value) : (w.setCell a u).ownsRow base e size v n xs := ownsRow_setCell_other h ha u
/-- a row whose element i turns -/
theorem own_set {base : Nat} {e : TypeId} {n g c : Nat} {xs : List Value} (h : w.ownsRow base e 1 (.slice (some ⟨g, 0, none⟩) n c) n xs) (i : Nat) (u : Value) :
    (w.setCell ⟨g, i, none⟩ u).ownsRow base e 1 (.slice (some ⟨g, 0, none⟩) n c) n (xs.set i u) := by
  refine ⟨by simpa using h.1, ?_⟩
  rcases h.2 with ⟨h0, _⟩ | ⟨g', cap, cur, hv, hb, hg, hn, hm, hs, ht⟩
  · cases h0
  · injection hv with h1 _ h3
    injection h1 with h1
    injection h1 with h1 _ _
    subst h1; subst h3
    refine .inr ⟨g, c, _, rfl, hb, blk_set hg i u, hn, hm, by simpa using hs, ?_⟩
    rw [← ht]
    simp only [Array.toList_setIfInBounds, List.take_set]
theorem own_cell {base : Nat} {e : TypeId} {n : Nat} {v : Value} {xs : List Value} (h : w.ownsRow base e 1 v n xs) {i : Nat} {x : Value} (hx : xs[i]? = some x) :
    ∃ g c, v = .slice (some ⟨g, 0, none⟩) n c ∧ w.cell? ⟨g, i, none⟩ = some x ∧ w.frozen? ⟨g, i, none⟩ = false ∧ i < n := by
  rcases h.2 with ⟨_, rfl⟩ | ⟨g, cap, cur, rfl, _, hg, _, _, _, ht⟩
  · have := h.1
    have hl := (List.getElem?_eq_some_iff.1 hx).1
    omega
  · refine ⟨g, cap, rfl, ?_, blk_frozen hg i, ?_⟩
    · have hc := h.cells (g := g) rfl i x hx
      rwa [Addr.add_lit, Nat.zero_add] at hc
    · have := h.1
      have hl := (List.getElem?_eq_some_iff.1 hx).1
      omega
theorem one_cells {g : Nat} {news : List Value} {e : TypeId} {fr : Nat × Nat} (h : w.heap[g]? = some (.cells news.toArray e fr)) : ∀ (j : Nat) (u : Value), news[j]? = some u → w.cell? ((⟨g, 0, none⟩ : Addr).add j) = some u := by
  intro j u hu
  rw [Addr.add_lit, Nat.zero_add]
  exact (cell_of_row w g j _ _ _ h).trans (by simpa using hu)
end
section
variable {P : Program} (w : World)
theorem run_app (base : Nat) (t ty e : TypeId) (i : TypeInfo) (z : Value) (size bytes : Nat) (ht : P.underlying t = some (.slice e)) (hi : P.info? e = some i) (hz : i.zero = some z)
    (hsize : i.size = size) (hby : i.bytes = bytes) (hzs : z.cells.size = size) (hsz : 0 < size)
    (v : Value) (n : Nat) (xs : List Value) (hown : w.ownsRow base e size v n xs)
    (g m c : Nat) (news : List Value) (e' : TypeId) (fr : Nat × Nat) (hr : w.heap[g]? = some (.cells news.toArray e' fr)) (hl : news.length = m * size) (h1 : ∀ u ∈ news, u.oneCell' = true)
    (h63 : n + m ≤ maxLen) (hbytes : (n + m) * bytes ≤ 140737488355328) (hbase : base ≤ w.heap.size) :
    ∃ A C w', (Builtin.append_ #[t, t] ty #[v, .slice (some ⟨g, 0, none⟩) m c]).run P w = .ok (.slice A (n + m) C) w' ∧ w'.ownsRow base e size (.slice A (n + m) C) (n + m) (xs ++ news) ∧ w.grownBy w' v.ownBlock ∧
      (A.map Addr.block = v.ownBlock ∨ A.map Addr.block = some w.heap.size) := by
  obtain ⟨v', w', hrun, h2, h3, _, h5⟩ := run_append_own_at (P := P) w base t ty e i z size bytes ht hi hz hsize hby hzs hsz v n xs hown ⟨g, 0, none⟩ m c news hl (one_cells hr) h1 h63 hbytes hbase
  obtain ⟨A, C, rfl⟩ := own_slice h2
  refine ⟨A, C, w', hrun, h2, h3, ?_⟩
  cases A <;> simpa [Value.ownBlock] using h5
theorem wp_app {o : Oper} {a : Act} {K : Act → World → Prop} {Q : Exit → Act → World → Prop} (s x : Operand) (t : TypeId)
    (ho : o.op = .call { callee := .builtin .append, args := #[s, x], argTypes := #[t, t] })
    (base : Nat) (e : TypeId) (i : TypeInfo) (z : Value) (size bytes : Nat) (ht : P.underlying t = some (.slice e)) (hi : P.info? e = some i) (hz : i.zero = some z)
    (hsize : i.size = size) (hby : i.bytes = bytes) (hzs : z.cells.size = size) (hsz : 0 < size)
    (v : Value) (n : Nat) (xs : List Value) (hs : a.eval s = v) (hown : w.ownsRow base e size v n xs)
    (g m c : Nat) (news : List Value) (e' : TypeId) (fr : Nat × Nat) (hx : a.eval x = .slice (some ⟨g, 0, none⟩) m c) (hr : w.heap[g]? = some (.cells news.toArray e' fr)) (hl : news.length = m * size) (h1 : ∀ u ∈ news, u.oneCell' = true)
    (h63 : n + m ≤ maxLen) (hbytes : (n + m) * bytes ≤ 140737488355328) (hbase : base ≤ w.heap.size)
    (h : ∀ A C w', w'.ownsRow base e size (.slice A (n + m) C) (n + m) (xs ++ news) → w.grownBy w' v.ownBlock → (A.map Addr.block = v.ownBlock ∨ A.map Addr.block = some w.heap.size) → K (a.put o.dst (.slice A (n + m) C)) w') : o.wp P a w K Q := by
  obtain ⟨A, C, w', hrun, h2, h3, h4⟩ := run_app (P := P) w base t o.type e i z size bytes ht hi hz hsize hby hzs hsz v n xs hown g m c news e' fr hr hl h1 h63 hbytes hbase
  unfold Oper.wp execOp
  simp only [ho, resolve, invoke, builtin, Sem.run_bind, Sem.run_pure, Result.andThen_ok, List.map_toArray, List.map_cons, List.map_nil, hs, hx, hrun]
  exact h A C w' h2 h3 h4
theorem wpl_app {ops : Array Oper} {rest : List Oper} {o : Oper} {a : Act} {Q : Exit → Act → World → Prop} (hgd : o.guard = none) (s x : Operand) (t : TypeId)
    (ho : o.op = .call { callee := .builtin .append, args := #[s, x], argTypes := #[t, t] })
    (base : Nat) (e : TypeId) (i : TypeInfo) (z : Value) (size bytes : Nat) (ht : P.underlying t = some (.slice e)) (hi : P.info? e = some i) (hz : i.zero = some z)
    (hsize : i.size = size) (hby : i.bytes = bytes) (hzs : z.cells.size = size) (hsz : 0 < size)
    (v : Value) (n : Nat) (xs : List Value) (hs : a.eval s = v) (hown : w.ownsRow base e size v n xs)
    (g m c : Nat) (news : List Value) (e' : TypeId) (fr : Nat × Nat) (hx : a.eval x = .slice (some ⟨g, 0, none⟩) m c) (hr : w.heap[g]? = some (.cells news.toArray e' fr)) (hl : news.length = m * size) (h1 : ∀ u ∈ news, u.oneCell' = true)
    (h63 : n + m ≤ maxLen) (hbytes : (n + m) * bytes ≤ 140737488355328) (hbase : base ≤ w.heap.size)
    (h : ∀ A C w', w'.ownsRow base e size (.slice A (n + m) C) (n + m) (xs ++ news) → w.grownBy w' v.ownBlock → (A.map Addr.block = v.ownBlock ∨ A.map Addr.block = some w.heap.size) → wpList P ops Q rest (a.put o.dst (.slice A (n + m) C)) w') : wpList P ops Q (o :: rest) a w :=
  wpList_plain hgd fun _ hK => wp_app w s x t ho base e i z size bytes ht hi hz hsize hby hzs hsz v n xs hs hown g m c news e' fr hx hr hl h1 h63 hbytes hbase fun A C w' h2 h3 h4 => hK _ _ (h A C w' h2 h3 h4)
end
end Go.Proofs.Ytfahoomkpammiaa
namespace Go.Proofs.Ytfahoomkpammiaa
open Go.RowKit Go.MapKept Go.Proofs.YtfahoomkpammiaaW.PrintWords Go.Proofs.YtfahoomkpammiaaW.PrintLast Go.Proofs.YtfahoomkpammiaaW.PrintMore Go.Proofs.Ytfahoomkpammiaa.PHistOrders
abbrev Mk := Int → Option Nat
def mkV (mk : Mk) : Int → Option Value := fun k => (mk k).map fun n => .int .i64 (n : Nat)
/-- block p is a book -/
structure BookAt (w : World) (p : Nat) (cs : List S70) (mk : Mk) (A : Option Addr) (c b : Nat) : Prop where
  blk : w.heap[p]? = some (.cells #[.slice A cs.length c, .map (some b)] 58 (0, 0))
  cap : cs.length ≤ c
  len : cs.length ≤ 2147483647
  row : Kd.C k70 w A cs.length cs
  map : IMap w b (mkV mk)
  inb : ∀ k n, mk k = some n → n < cs.length
theorem BookAt.below {w w1 : World} {p : Nat} {cs : List S70} {mk : Mk} {A : Option Addr} {c b : Nat} (h : BookAt w p cs mk A c b) (hb : Below w.heap.size w w1) : BookAt w1 p cs mk A c b :=
  ⟨blk_below h.blk hb, h.cap, h.len, Kd.C_below h.row hb, h.map.of_block (hb.block _ h.map.lt), h.inb⟩
theorem mkV_some {mk : Mk} {k : Int} {n : Nat} (h : mk k = some n) : mkV mk k = some (.int .i64 (n : Nat)) := by unfold mkV; rw [h]; rfl
theorem mkV_none {mk : Mk} {k : Int} (h : mk k = none) : mkV mk k = none := by unfold mkV; rw [h]; rfl
theorem BookAt.look {w : World} {p : Nat} {cs : List S70} {mk : Mk} {A : Option Addr} {c b : Nat} (h : BookAt w p cs mk A c b) (k : Int) :
    (Instr.lookup 56 (.map (some b)) (.int .i64 k) true).run Try.prog w = .ok (.tuple #[(mkV mk k).getD (.int .i64 0), .bool (mkV mk k).isSome]) w :=
  IMap.run_lookup2 Try.underlying56 Try.underlying3 h.map _ (by kernel_rfl) k
set_option maxRecDepth 100000 in
theorem value_some {w : World} {p : Nat} {cs : List S70} {mk : Mk} {A : Option Addr} {c b : Nat} (h : BookAt w p cs mk A c b) (key : Int) (n : Nat) (hk : mk key = some n) :
    Calls Try.prog 59 #[.pointer (some ⟨p, 0, none⟩), .int .i64 key] w fun e w' => e = .returned (.tuple #[.string (rd_T70 cs n).f2.f2, .bool true]) ∧ w = w' := by
  have hn := h.inb _ _ hk
  have hl := h.look key
  simp only [mkV_some hk, Option.getD_some, Option.isSome_some] at hl
  have c0 := blk_cell h.blk (i := 0) rfl
  have c1 := blk_cell h.blk (i := 1) rfl
  obtain ⟨ad, E7, e7, E8, e8, hA, q0, q1, q2, q3, q4, q5, q6, q7, q8, _, _, _, _⟩ := at_T70 h.row n (by omega) (by omega)
  subst hA
  simp only [Int.toNat_natCast] at q4
  have hcl : cs.length ≤ 2147483647 := h.len
  have H := Lib.hid h
  clear h hk q0 q1 q2 q3 q5 q6 q7 q8
  have hnD : decide ((n : Int) < (cs.length : Int)) = true := by simp; omega
  have hu := Try.underlying65
  have hu2 := Try.underlying58
  have hu3 := Try.underlying40
  go_enter Try.func59, Try.ntmps59
  go_wp2_with fail
  go_ret2
  exact ⟨rfl, rfl⟩
set_option maxRecDepth 100000 in
theorem value_none {w : World} {p : Nat} {cs : List S70} {mk : Mk} {A : Option Addr} {c b : Nat} (h : BookAt w p cs mk A c b) (key : Int) (hk : mk key = none) :
    Calls Try.prog 59 #[.pointer (some ⟨p, 0, none⟩), .int .i64 key] w fun e w' => e = .returned (.tuple #[.string ⟨#[]⟩, .bool false]) ∧ w = w' := by
  have hl := h.look key
  simp only [mkV_none hk, Option.getD_none, Option.isSome_none] at hl
  have c0 := blk_cell h.blk (i := 0) rfl
  have c1 := blk_cell h.blk (i := 1) rfl
  have H := Lib.hid h
  clear h hk
  have hu2 := Try.underlying58
  go_enter Try.func59, Try.ntmps59
  go_wp2_with fail
  go_ret2
  exact ⟨rfl, rfl⟩
/-- the first place at or behind i at which a stands -/
def idxFrom (l : List Int) (a : Int) : Nat → Nat → Option Nat
  | 0, _ => none
  | k + 1, i => if l.getD i 0 = a then some i else idxFrom l a k (i + 1)
theorem idxFrom_succ (l : List Int) (a : Int) (k i : Nat) : idxFrom l a (k + 1) i = if l.getD i 0 = a then some i else idxFrom l a k (i + 1) := rfl
def idx (l : List Int) (a : Int) : Option Nat := idxFrom l a l.length 0
def idxI : Option Nat → Int
  | none => -1
  | some i => (i : Nat)
theorem idxFrom_some {l : List Int} {a : Int} : ∀ (k i n : Nat), idxFrom l a k i = some n → i ≤ n ∧ n < i + k ∧ l.getD n 0 = a ∧ ∀ j, i ≤ j → j < n → l.getD j 0 ≠ a := by
  intro k
  induction k with
  | zero => intro i n h; cases h
  | succ k ih =>
    intro i n h
    unfold idxFrom at h
    split at h
    · rename_i hq
      obtain rfl := Option.some.inj h
      exact ⟨Nat.le_refl _, by omega, hq, fun j h1 h2 => by omega⟩
    · rename_i hq
      obtain ⟨h1, h2, h3, h4⟩ := ih (i + 1) n h
      refine ⟨by omega, by omega, h3, fun j a1 a2 => ?_⟩
      rcases Nat.eq_or_lt_of_le a1 with rfl | q
      · exact hq
      · exact h4 j q a2
theorem idxFrom_none {l : List Int} {a : Int} : ∀ (k i : Nat), idxFrom l a k i = none → ∀ j, i ≤ j → j < i + k → l.getD j 0 ≠ a := by
  intro k
  induction k with
  | zero => intro i _ j h1 h2; omega
  | succ k ih =>
    intro i h j h1 h2
    unfold idxFrom at h
    split at h
    · cases h
    · rename_i hq
      rcases Nat.eq_or_lt_of_le h1 with rfl | q
      · exact hq
      · exact ih (i + 1) h j q (by omega)
theorem idx_some {l : List Int} {a : Int} {n : Nat} (h : idx l a = some n) : n < l.length ∧ l.getD n 0 = a ∧ ∀ j, j < n → l.getD j 0 ≠ a := by
  obtain ⟨h1, h2, h3, h4⟩ := idxFrom_some _ _ _ h
  exact ⟨by omega, h3, fun j hj => h4 j (Nat.zero_le _) hj⟩
theorem idx_none {l : List Int} {a : Int} (h : idx l a = none) : ∀ j, j < l.length → l.getD j 0 ≠ a := fun j hj => idxFrom_none _ _ h j (Nat.zero_le _) (by omega)
theorem idx_isSome {l : List Int} {a : Int} : (idx l a).isSome = true ↔ a ∈ l := by
  constructor
  · intro h
    obtain ⟨n, hn⟩ := Option.isSome_iff_exists.1 h
    obtain ⟨h1, h2, _⟩ := idx_some hn
    rw [List.getD_eq_getElem?_getD, List.getElem?_eq_getElem h1] at h2
    exact h2 ▸ List.getElem_mem h1
  · intro h
    cases q : idx l a with
    | some n => rfl
    | none =>
      obtain ⟨n, hn, he⟩ := List.mem_iff_getElem.1 h
      exact absurd (by rw [List.getD_eq_getElem?_getD, List.getElem?_eq_getElem hn]; exact he) (idx_none q n hn)
theorem index_loop (l : List Int) (a : Int) (hl : l.length ≤ 9223372036854775807) : ∀ (k i r : Nat), i + r = l.length → r < k →
    slices_Index_int_int.l0 k l a (l.length : Int) i = some (idxI (idxFrom l a r i)) := by
  intro k
  induction k with
  | zero => intro i r _ h; omega
  | succ k ih =>
    intro i r hi hr
    unfold slices_Index_int_int.l0
    cases r with
    | zero =>
      rw [if_neg (by omega)]
      rfl
    | succ r =>
      have hw : wrap64 ((i : Int) + 1) = ((i + 1 : Nat) : Int) := by unfold wrap64; omega
      have e2 : rd l ((i : Nat) : Int) = l.getD i 0 := rfl
      rw [if_pos (by omega), if_pos (by omega), if_pos (by omega), hw, ih (i + 1) r (by omega) (by omega), e2, idxFrom_succ]
      by_cases hq : l.getD i 0 = a
      · rw [if_pos hq.symm, if_pos hq]; rfl
      · rw [if_neg (fun h => hq h.symm), if_neg hq]
theorem index_calls {w : World} (A : Option Addr) (c : Nat) (l : List Int) (a : Int) (hr : Kd.C (Kd.int .i64) w A l.length l) (hc : l.length ≤ c) (hl : l.length ≤ 9223372036854775807) :
    Calls Try.prog 29 #[.slice A l.length c, .int .i64 a] w fun e w' => e = .returned (.int .i64 (idxI (idx l a))) ∧ Drawn0 w w' :=
  slices_Index_int_int.calls (l.length + 1) A c l a _ w hr hc (index_loop l a hl (l.length + 1) 0 l.length (by omega) (by omega))
theorem contains_calls {w : World} (A : Option Addr) (c : Nat) (l : List Int) (a : Int) (hr : Kd.C (Kd.int .i64) w A l.length l) (hc : l.length ≤ c) (hl : l.length ≤ 9223372036854775807) :
    Calls Try.prog 60 #[.slice A l.length c, .int .i64 a] w fun e w' => e = .returned (.bool (idx l a).isSome) ∧ Drawn0 w w' := by
  cases q : idx l a with
  | none =>
    have H := Lib.hid q
    have hi := index_calls A c l a hr hc hl
    rw [q] at hi
    simp only [idxI] at hi
    clear q hr
    go_enter Try.func60, Try.ntmps60
    go_wp2_with fail
    refine hi.mono ?_
    rintro e w1 ⟨rfl, hd⟩
    go_wp2_with fail
    go_ret
    exact ⟨rfl, hd⟩
  | some n =>
    have H := Lib.hid q
    have hi := index_calls A c l a hr hc hl
    rw [q] at hi
    simp only [idxI] at hi
    have hn := (idx_some q).1
    clear q hr
    go_enter Try.func60, Try.ntmps60
    go_wp2_with fail
    refine hi.mono ?_
    rintro e w1 ⟨rfl, hd⟩
    go_wp2_with fail
    go_ret
    exact ⟨by simp, hd⟩
/-- did the call number k make its key's value? -/
def heldB (cs : List S70) (mk : Mk) (k : Nat) : Bool := decide (mk (rd_T70 cs k).f2.f1 = some k) && decide ((rd_T70 cs k).f2.f0 = 1)
def sawTail (c : S70) (key : Int) : Bool :=
  if c.f2.f0 = 3 then (idx c.f3.f2 key).isSome else if c.f2.f0 = 1 then decide (c.f2.f1 = key) && !c.f3.f0 else decide (c.f2.f1 = key) && c.f3.f0
def missedTail (c : S70) (key : Int) : Bool :=
  if c.f2.f0 = 3 then !(idx c.f3.f2 key).isSome else if c.f2.f0 = 2 then decide (c.f2.f1 = key) && !c.f3.f0 else false
def sawB (cs : List S70) (mk : Mk) (c : S70) (k : Nat) : Bool := heldB cs mk k && sawTail c (rd_T70 cs k).f2.f1
def missedB (cs : List S70) (mk : Mk) (c : S70) (k : Nat) : Bool := heldB cs mk k && missedTail c (rd_T70 cs k).f2.f1
/-- a call handed in by value -/
abbrev callV (c : S70) (A7 : Option Addr) (c7 : Nat) (A8 : Option Addr) (c8 : Nat) : Value :=
  .agg #[.int .i64 c.f0, .int .i64 c.f1, .int .i64 c.f2.f0, .int .i64 c.f2.f1, .string c.f2.f2, .bool c.f3.f0, .string c.f3.f1, .slice A7 c.f3.f2.length c7, .slice A8 c.f3.f3.length c8]
theorem ne_forms {a b : Int} (h : a ≠ b) : (a == b) = false ∧ (a != b) = true ∧ decide (a = b) = false ∧ (decide (a = b) == false) = true := by
  refine ⟨beq_eq_false_iff_ne.mpr h, bne_iff_ne.mpr h, decide_eq_false h, by simp [h]⟩
theorem nat_ne_forms {a b : Nat} (h : a ≠ b) : (a == b) = false ∧ (a != b) = true ∧ decide (a = b) = false := by
  refine ⟨beq_eq_false_iff_ne.mpr h, bne_iff_ne.mpr h, decide_eq_false h⟩
set_option maxRecDepth 100000 in
set_option maxHeartbeats 1000000 in
theorem saw_calls {w : World} {p : Nat} {cs : List S70} {mk : Mk} {A : Option Addr} {cc b : Nat} (h : BookAt w p cs mk A cc b) (c : S70) (A7 : Option Addr) (c7 : Nat) (A8 : Option Addr) (c8 : Nat)
    (l7 : c.f3.f2.length ≤ c7) (g7 : (Kd.int .i64).C w A7 c.f3.f2.length c.f3.f2) (h7 : c.f3.f2.length ≤ 9223372036854775807) (k : Nat) (hkl : k < cs.length) :
    Calls Try.prog 47 #[.pointer (some ⟨p, 0, none⟩), callV c A7 c7 A8 c8, .int .i64 k] w fun e w' => e = .returned (.bool (sawB cs mk c k)) ∧ Below w.heap.size w w' := by
  unfold callV
  have hl := fun o : Obj => (h.below (below_alloc (Below.refl _ _) o)).look (rd_T70 cs k).f2.f1
  have c0 := blk_cell h.blk (i := 0) rfl
  have c1 := blk_cell h.blk (i := 1) rfl
  have p0 := blk_lt h.blk
  obtain ⟨ad, E7, e7, E8, e8, hA, q0, q1, q2, q3, q4, q5, q6, q7, q8, _, _, _, _⟩ := at_T70 h.row k (by omega) (by omega)
  subst hA
  simp only [Int.toNat_natCast] at q2 q3
  have pa := World.block_lt_of_cell? w _ q2
  dsimp only at pa
  have hcl : cs.length ≤ 2147483647 := h.len
  have H := Lib.hid (And.intro h (And.intro l7 (And.intro g7 h7)))
  clear h q0 q1 q4 q5 q6 q7 q8 l7 g7 h7
  have hnD : decide ((k : Int) < (cs.length : Int)) = true := by simp; omega
  have hu := Try.underlying65
  have hu2 := Try.underlying58
  have hu3 := Try.underlying40
  have hu4 := Try.underlying43
  obtain ⟨key, hkey⟩ : ∃ key, key = (rd_T70 cs k).f2.f1 := ⟨_, rfl⟩
  obtain ⟨kind, hkind⟩ : ∃ kind, kind = (rd_T70 cs k).f2.f0 := ⟨_, rfl⟩
  rw [← hkey] at hl q3
  rw [← hkind] at q2
  have HK := Lib.hid (And.intro hkey hkind)
  have hfin : sawB cs mk c k = (decide (mk key = some k) && decide (kind = 1) && sawTail c key) := by unfold sawB heldB; rw [← hkey, ← hkind]
  rw [hfin]
  clear hkey hkind hfin
  cases hmk : mk key with
  | none =>
    simp only [mkV_none hmk, Option.getD_none, Option.isSome_none] at hl
    clear hmk
    go_enter Try.func47, Try.ntmps47
    go_wp2_with fail
    go_ret
    exact ⟨rfl, below_alloc (Below.refl _ _) _⟩
  | some n =>
    simp only [mkV_some hmk, Option.getD_some, Option.isSome_some] at hl
    clear hmk
    by_cases hnk : n = k
    · subst hnk
      by_cases hk1 : kind = 1
      · subst hk1
        have hs : (decide ((some n : Option Nat) = some n) && decide ((1 : Int) = 1) && sawTail c key) = sawTail c key := by simp
        rw [hs]
        clear hs
        by_cases h3 : c.f2.f0 = 3
        · have hs : sawTail c key = (idx c.f3.f2 key).isSome := by unfold sawTail; rw [if_pos h3]
          rw [hs]
          rw [h3]
          have H3 := Lib.hid h3
          clear hs h3
          go_enter Try.func47, Try.ntmps47
          go_wp2_with fail
          refine (contains_calls A7 c7 c.f3.f2 key (Kd.C_below H.out.2.2.1 (below_alloc (Below.refl _ _) _)) H.out.2.1 (by have := H.out.2.2.2; omega)).mono ?_
          rintro e w1 ⟨rfl, hd⟩
          have HD := Lib.hid hd
          clear hd
          go_wp2_with fail
          go_ret
          exact ⟨by cases (idx c.f3.f2 key) <;> rfl, below_step (below_alloc (Below.refl _ _) _) HD.out.below⟩
        · obtain ⟨f1, f2, f3, _⟩ := ne_forms h3
          by_cases h1 : c.f2.f0 = 1
          · have hs : sawTail c key = (decide (c.f2.f1 = key) && !c.f3.f0) := by unfold sawTail; rw [if_neg h3, if_pos h1]
            rw [hs]
            rw [h1]
            have H3 := Lib.hid (And.intro h1 h3)
            clear hs h3 h1 f1 f2 f3
            by_cases hq : c.f2.f1 = key
            · rw [hq]
              clear hq
              go_enter Try.func47, Try.ntmps47
              go_wp2_with fail
              go_ret
              exact ⟨by simp, below_alloc (Below.refl _ _) _⟩
            · obtain ⟨g1, g2, g3, _⟩ := ne_forms hq
              go_enter Try.func47, Try.ntmps47
              go_wp2_with fail
              go_ret
              exact ⟨by simp [g3], below_alloc (Below.refl _ _) _⟩
          · obtain ⟨e1, e2, e3, _⟩ := ne_forms h1
            have hs : sawTail c key = (decide (c.f2.f1 = key) && c.f3.f0) := by unfold sawTail; rw [if_neg h3, if_neg h1]
            rw [hs]
            have H3 := Lib.hid (And.intro h1 h3)
            clear hs h3 h1
            by_cases hq : c.f2.f1 = key
            · rw [hq]
              clear hq
              go_enter Try.func47, Try.ntmps47
              go_wp2_with fail
              go_ret
              exact ⟨by simp, below_alloc (Below.refl _ _) _⟩
            · obtain ⟨g1, g2, g3, _⟩ := ne_forms hq
              go_enter Try.func47, Try.ntmps47
              go_wp2_with fail
              go_ret
              exact ⟨by simp [g3], below_alloc (Below.refl _ _) _⟩
      · obtain ⟨f1, f2, f3, _⟩ := ne_forms hk1
        have hs : (decide ((some n : Option Nat) = some n) && decide (kind = 1) && sawTail c key) = false := by simp [f3]
        rw [hs]
        clear hs
        go_enter Try.func47, Try.ntmps47
        go_wp2_with fail
        go_ret
        exact ⟨rfl, below_alloc (Below.refl _ _) _⟩
    · have hs : (decide ((some n : Option Nat) = some k) && decide (kind = 1) && sawTail c key) = false := by simp [hnk]
      rw [hs]
      clear hs
      obtain ⟨f1, f2, f3⟩ := nat_ne_forms hnk
      obtain ⟨g1, g2, g3, _⟩ := ne_forms (show (n : Int) ≠ (k : Int) by omega)
      go_enter Try.func47, Try.ntmps47
      go_wp2_with fail
      go_ret
      exact ⟨rfl, below_alloc (Below.refl _ _) _⟩
set_option maxRecDepth 100000 in
set_option maxHeartbeats 1000000 in
theorem missed_calls {w : World} {p : Nat} {cs : List S70} {mk : Mk} {A : Option Addr} {cc b : Nat} (h : BookAt w p cs mk A cc b) (c : S70) (A7 : Option Addr) (c7 : Nat) (A8 : Option Addr) (c8 : Nat)
    (l7 : c.f3.f2.length ≤ c7) (g7 : (Kd.int .i64).C w A7 c.f3.f2.length c.f3.f2) (h7 : c.f3.f2.length ≤ 9223372036854775807) (k : Nat) (hkl : k < cs.length) :
    Calls Try.prog 48 #[.pointer (some ⟨p, 0, none⟩), callV c A7 c7 A8 c8, .int .i64 k] w fun e w' => e = .returned (.bool (missedB cs mk c k)) ∧ Below w.heap.size w w' := by
  unfold callV
  have hl := fun o : Obj => (h.below (below_alloc (Below.refl _ _) o)).look (rd_T70 cs k).f2.f1
  have c0 := blk_cell h.blk (i := 0) rfl
  have c1 := blk_cell h.blk (i := 1) rfl
  have p0 := blk_lt h.blk
  obtain ⟨ad, E7, e7, E8, e8, hA, q0, q1, q2, q3, q4, q5, q6, q7, q8, _, _, _, _⟩ := at_T70 h.row k (by omega) (by omega)
  subst hA
  simp only [Int.toNat_natCast] at q2 q3
  have pa := World.block_lt_of_cell? w _ q2
  dsimp only at pa
  have hcl : cs.length ≤ 2147483647 := h.len
  have H := Lib.hid (And.intro h (And.intro l7 (And.intro g7 h7)))
  clear h q0 q1 q4 q5 q6 q7 q8 l7 g7 h7
  have hnD : decide ((k : Int) < (cs.length : Int)) = true := by simp; omega
  have hu := Try.underlying65
  have hu2 := Try.underlying58
  have hu3 := Try.underlying40
  have hu4 := Try.underlying43
  obtain ⟨key, hkey⟩ : ∃ key, key = (rd_T70 cs k).f2.f1 := ⟨_, rfl⟩
  obtain ⟨kind, hkind⟩ : ∃ kind, kind = (rd_T70 cs k).f2.f0 := ⟨_, rfl⟩
  rw [← hkey] at hl q3
  rw [← hkind] at q2
  have HK := Lib.hid (And.intro hkey hkind)
  have hfin : missedB cs mk c k = (decide (mk key = some k) && decide (kind = 1) && missedTail c key) := by unfold missedB heldB; rw [← hkey, ← hkind]
  rw [hfin]
  clear hkey hkind hfin
  cases hmk : mk key with
  | none =>
    simp only [mkV_none hmk, Option.getD_none, Option.isSome_none] at hl
    clear hmk
    go_enter Try.func48, Try.ntmps48
    go_wp2_with fail
    go_ret
    exact ⟨rfl, below_alloc (Below.refl _ _) _⟩
  | some n =>
    simp only [mkV_some hmk, Option.getD_some, Option.isSome_some] at hl
    clear hmk
    by_cases hnk : n = k
    · subst hnk
      by_cases hk1 : kind = 1
      · subst hk1
        have hs : (decide ((some n : Option Nat) = some n) && decide ((1 : Int) = 1) && missedTail c key) = missedTail c key := by simp
        rw [hs]
        clear hs
        by_cases h3 : c.f2.f0 = 3
        · have hs : missedTail c key = !(idx c.f3.f2 key).isSome := by unfold missedTail; rw [if_pos h3]
          rw [hs]
          rw [h3]
          have H3 := Lib.hid h3
          clear hs h3
          go_enter Try.func48, Try.ntmps48
          go_wp2_with fail
          refine (contains_calls A7 c7 c.f3.f2 key (Kd.C_below H.out.2.2.1 (below_alloc (Below.refl _ _) _)) H.out.2.1 (by have := H.out.2.2.2; omega)).mono ?_
          rintro e w1 ⟨rfl, hd⟩
          have HD := Lib.hid hd
          clear hd
          go_wp2_with fail
          go_ret
          exact ⟨by cases (idx c.f3.f2 key) <;> rfl, below_step (below_alloc (Below.refl _ _) _) HD.out.below⟩
        · obtain ⟨f1, f2, f3, _⟩ := ne_forms h3
          by_cases h1 : c.f2.f0 = 2
          · have hs : missedTail c key = (decide (c.f2.f1 = key) && !c.f3.f0) := by unfold missedTail; rw [if_neg h3, if_pos h1]
            rw [hs]
            rw [h1]
            have H3 := Lib.hid (And.intro h1 h3)
            clear hs h3 h1 f1 f2 f3
            by_cases hq : c.f2.f1 = key
            · rw [hq]
              clear hq
              go_enter Try.func48, Try.ntmps48
              go_wp2_with fail
              go_ret
              exact ⟨by simp, below_alloc (Below.refl _ _) _⟩
            · obtain ⟨g1, g2, g3, _⟩ := ne_forms hq
              go_enter Try.func48, Try.ntmps48
              go_wp2_with fail
              go_ret
              exact ⟨by simp [g3], below_alloc (Below.refl _ _) _⟩
          · obtain ⟨e1, e2, e3, _⟩ := ne_forms h1
            have hs : missedTail c key = false := by unfold missedTail; rw [if_neg h3, if_neg h1]
            rw [hs]
            have H3 := Lib.hid (And.intro h1 h3)
            clear hs h3 h1
            go_enter Try.func48, Try.ntmps48
            go_wp2_with fail
            go_ret
            exact ⟨rfl, below_alloc (Below.refl _ _) _⟩
      · obtain ⟨f1, f2, f3, _⟩ := ne_forms hk1
        have hs : (decide ((some n : Option Nat) = some n) && decide (kind = 1) && missedTail c key) = false := by simp [f3]
        rw [hs]
        clear hs
        go_enter Try.func48, Try.ntmps48
        go_wp2_with fail
        go_ret
        exact ⟨rfl, below_alloc (Below.refl _ _) _⟩
    · have hs : (decide ((some n : Option Nat) = some k) && decide (kind = 1) && missedTail c key) = false := by simp [hnk]
      rw [hs]
      clear hs
      obtain ⟨f1, f2, f3⟩ := nat_ne_forms hnk
      obtain ⟨g1, g2, g3, _⟩ := ne_forms (show (n : Int) ≠ (k : Int) by omega)
      go_enter Try.func48, Try.ntmps48
      go_wp2_with fail
      go_ret
      exact ⟨rfl, below_alloc (Below.refl _ _) _⟩
/-- what the maker of a key gave it -/
def givenV (cs : List S70) (mk : Mk) (k : Int) : Option ByteArray := (mk k).map fun n => (rd_T70 cs n).f2.f2
def snapB (cs : List S70) (mk : Mk) (ks : List Int) (vs : List ByteArray) (n : Nat) : Prop := ∀ j, j < n → givenV cs mk (ks.getD j 0) = some (vs.getD j ⟨#[]⟩)
instance (cs : List S70) (mk : Mk) (ks : List Int) (vs : List ByteArray) (n : Nat) : Decidable (snapB cs mk ks vs n) := by unfold snapB; infer_instance
def fitsB (cs : List S70) (mk : Mk) (c : S70) : Bool :=
  if c.f2.f0 = 1 then (mk c.f2.f1).isSome
  else if c.f2.f0 = 2 then !c.f3.f0 || decide (givenV cs mk c.f2.f1 = some c.f3.f1)
  else decide (snapB cs mk c.f3.f2 c.f3.f3 c.f3.f2.length)
theorem str_eq {s t : ByteArray} : (s.toList == t.toList) = true ↔ s = t := by
  constructor
  · intro h
    exact (Lib.bytes_beq_iff _ _).1 h
  · rintro rfl
    simp
theorem str_forms (s t : ByteArray) : (s = t ∧ (s.toList == t.toList) = true ∧ (s.toList != t.toList) = false) ∨ (s ≠ t ∧ (s.toList == t.toList) = false ∧ (s.toList != t.toList) = true) := by
  by_cases h : s = t
  · exact .inl ⟨h, str_eq.2 h, by rw [bne, str_eq.2 h]; rfl⟩
  · have : (s.toList == t.toList) = false := by
      cases q : (s.toList == t.toList)
      · rfl
      · exact absurd (str_eq.1 q) h
    exact .inr ⟨h, this, by rw [bne, this]; rfl⟩
theorem value_any {w : World} {p : Nat} {cs : List S70} {mk : Mk} {A : Option Addr} {c b : Nat} (h : BookAt w p cs mk A c b) (key : Int) :
    Calls Try.prog 59 #[.pointer (some ⟨p, 0, none⟩), .int .i64 key] w fun e w' => ∃ v o, e = .returned (.tuple #[.string v, .bool o]) ∧ w = w' := by
  cases hmk : mk key with
  | none => exact (value_none h key hmk).mono fun e w' q => ⟨_, _, q.1, q.2⟩
  | some n => exact (value_some h key n hmk).mono fun e w' q => ⟨_, _, q.1, q.2⟩
theorem snapB_succ {cs : List S70} {mk : Mk} {ks : List Int} {vs : List ByteArray} {n : Nat} (h : snapB cs mk ks vs n) (hn : givenV cs mk (ks.getD n 0) = some (vs.getD n ⟨#[]⟩)) : snapB cs mk ks vs (n + 1) := fun j hj => by
  rcases Nat.lt_or_ge j n with q | q
  · exact h j q
  · obtain rfl : j = n := by omega
    exact hn
set_option maxRecDepth 100000 in
set_option maxHeartbeats 1000000 in
theorem fits_pub {w : World} {p : Nat} {cs : List S70} {mk : Mk} {A : Option Addr} {cc b : Nat} (h : BookAt w p cs mk A cc b) (c : S70) (A7 : Option Addr) (c7 : Nat) (A8 : Option Addr) (c8 : Nat) (hk : c.f2.f0 = 1) :
    Calls Try.prog 45 #[.pointer (some ⟨p, 0, none⟩), callV c A7 c7 A8 c8] w fun e w' => e = .returned (.bool (fitsB cs mk c)) ∧ Below w.heap.size w w' := by
  have hf : fitsB cs mk c = (mk c.f2.f1).isSome := by unfold fitsB; rw [if_pos hk]
  rw [hf]
  unfold callV
  rw [hk]
  have H := Lib.hid h
  clear h hf hk
  have hu := Try.underlying65
  have hu3 := Try.underlying40
  have hu4 := Try.underlying43
  cases hmk : mk c.f2.f1 with
  | none =>
    have HM := Lib.hid hmk
    clear hmk
    go_enter Try.func45, Try.ntmps45
    go_wp2_with fail
    refine (value_none (H.out.below (below_alloc (Below.refl _ _) _)) c.f2.f1 HM.out).mono ?_
    rintro e w1 ⟨rfl, rfl⟩
    go_wp2_with fail
    go_ret
    exact ⟨rfl, below_alloc (Below.refl _ _) _⟩
  | some n =>
    have HM := Lib.hid hmk
    clear hmk
    go_enter Try.func45, Try.ntmps45
    go_wp2_with fail
    refine (value_some (H.out.below (below_alloc (Below.refl _ _) _)) c.f2.f1 n HM.out).mono ?_
    rintro e w1 ⟨rfl, rfl⟩
    go_wp2_with fail
    go_ret
    exact ⟨rfl, below_alloc (Below.refl _ _) _⟩
set_option maxRecDepth 100000 in
set_option maxHeartbeats 1000000 in
theorem fits_look {w : World} {p : Nat} {cs : List S70} {mk : Mk} {A : Option Addr} {cc b : Nat} (h : BookAt w p cs mk A cc b) (c : S70) (A7 : Option Addr) (c7 : Nat) (A8 : Option Addr) (c8 : Nat) (hk : c.f2.f0 = 2) :
    Calls Try.prog 45 #[.pointer (some ⟨p, 0, none⟩), callV c A7 c7 A8 c8] w fun e w' => e = .returned (.bool (fitsB cs mk c)) ∧ Below w.heap.size w w' := by
  have hf : fitsB cs mk c = (!c.f3.f0 || decide (givenV cs mk c.f2.f1 = some c.f3.f1)) := by unfold fitsB; rw [if_neg (by omega), if_pos hk]
  unfold givenV at hf
  unfold callV
  rw [hk]
  have H := Lib.hid h
  clear h hk
  have hu := Try.underlying65
  have hu3 := Try.underlying40
  have hu4 := Try.underlying43
  cases hmk : mk c.f2.f1 with
  | none =>
    have HM := Lib.hid hmk
    have hf2 : fitsB cs mk c = !c.f3.f0 := by rw [hf, hmk]; simp
    rw [hf2]
    clear hmk hf hf2
    cases hb : c.f3.f0 with
    | false =>
      have HB := Lib.hid hb
      clear hb
      go_enter Try.func45, Try.ntmps45
      go_wp2_with fail
      refine (value_none (H.out.below (below_alloc (Below.refl _ _) _)) c.f2.f1 HM.out).mono ?_
      rintro e w1 ⟨rfl, rfl⟩
      go_wp2_with fail
      go_ret
      exact ⟨rfl, below_alloc (Below.refl _ _) _⟩
    | true =>
      have HB := Lib.hid hb
      clear hb
      go_enter Try.func45, Try.ntmps45
      go_wp2_with fail
      refine (value_none (H.out.below (below_alloc (Below.refl _ _) _)) c.f2.f1 HM.out).mono ?_
      rintro e w1 ⟨rfl, rfl⟩
      go_wp2_with fail
      go_ret
      exact ⟨by simp, below_alloc (Below.refl _ _) _⟩
  | some n =>
    have HM := Lib.hid hmk
    have hq := str_forms (rd_T70 cs n).f2.f2 c.f3.f1
    obtain ⟨v, hv⟩ : ∃ v, v = (rd_T70 cs n).f2.f2 := ⟨_, rfl⟩
    rw [← hv] at hq
    have HV := Lib.hid hv
    have hg : fitsB cs mk c = (!c.f3.f0 || decide (v = c.f3.f1)) := by rw [hf, hmk, hv]; simp
    rw [hg]
    clear hv hg hf hmk
    rcases hq with ⟨h1, h2, h3⟩ | ⟨h1, h2, h3⟩
    · have hd : decide (v = c.f3.f1) = true := decide_eq_true h1
      rw [hd]
      clear hd h1
      cases hb : c.f3.f0 with
      | false =>
        have HB := Lib.hid hb
        clear hb
        go_enter Try.func45, Try.ntmps45
        go_wp2_with fail
        refine (value_some (H.out.below (below_alloc (Below.refl _ _) _)) c.f2.f1 n HM.out).mono ?_
        rw [← HV.out]
        rintro e w1 ⟨rfl, rfl⟩
        go_wp2_with fail
        go_ret
        exact ⟨rfl, below_alloc (Below.refl _ _) _⟩
      | true =>
        have HB := Lib.hid hb
        clear hb
        go_enter Try.func45, Try.ntmps45
        go_wp2_with fail
        refine (value_some (H.out.below (below_alloc (Below.refl _ _) _)) c.f2.f1 n HM.out).mono ?_
        rw [← HV.out]
        rintro e w1 ⟨rfl, rfl⟩
        go_wp2_with fail
        go_ret
        exact ⟨rfl, below_alloc (Below.refl _ _) _⟩
    · have hd : decide (v = c.f3.f1) = false := decide_eq_false h1
      rw [hd]
      clear hd h1
      cases hb : c.f3.f0 with
      | false =>
        have HB := Lib.hid hb
        clear hb
        go_enter Try.func45, Try.ntmps45
        go_wp2_with fail
        refine (value_some (H.out.below (below_alloc (Below.refl _ _) _)) c.f2.f1 n HM.out).mono ?_
        rw [← HV.out]
        rintro e w1 ⟨rfl, rfl⟩
        go_wp2_with fail
        go_ret
        exact ⟨rfl, below_alloc (Below.refl _ _) _⟩
      | true =>
        have HB := Lib.hid hb
        clear hb
        go_enter Try.func45, Try.ntmps45
        go_wp2_with fail
        refine (value_some (H.out.below (below_alloc (Below.refl _ _) _)) c.f2.f1 n HM.out).mono ?_
        rw [← HV.out]
        rintro e w1 ⟨rfl, rfl⟩
        go_wp2_with fail
        go_ret
        exact ⟨rfl, below_alloc (Below.refl _ _) _⟩
set_option maxRecDepth 100000 in
set_option maxHeartbeats 1000000 in
theorem fits_snap {w : World} {p : Nat} {cs : List S70} {mk : Mk} {A : Option Addr} {cc b : Nat} (h : BookAt w p cs mk A cc b) (c : S70) (A7 : Option Addr) (c7 : Nat) (A8 : Option Addr) (c8 : Nat) (k1 : c.f2.f0 ≠ 1) (k2 : c.f2.f0 ≠ 2)
    (l7 : c.f3.f2.length ≤ c7) (g7 : (Kd.int .i64).C w A7 c.f3.f2.length c.f3.f2) (l8 : c.f3.f3.length ≤ c8) (g8 : Kd.string.C w A8 c.f3.f3.length c.f3.f3) (hl : c.f3.f2.length = c.f3.f3.length) (hm : c.f3.f2.length ≤ 9223372036854775807) :
    Calls Try.prog 45 #[.pointer (some ⟨p, 0, none⟩), callV c A7 c7 A8 c8] w fun e w' => e = .returned (.bool (fitsB cs mk c)) ∧ Below w.heap.size w w' := by
  have hf : fitsB cs mk c = decide (snapB cs mk c.f3.f2 c.f3.f3 c.f3.f2.length) := by unfold fitsB; rw [if_neg k1, if_neg k2]
  rw [hf]
  unfold callV
  have H := Lib.hid h
  obtain ⟨a1, a2, a3, _⟩ := ne_forms k1
  obtain ⟨b1, b2, b3, _⟩ := ne_forms k2
  rw [← hl]
  have HG := Lib.hid (And.intro l7 (And.intro g7 (And.intro l8 (And.intro g8 hl))))
  clear h hf k1 k2 l7 g7 l8 g8 hl
  have hu := Try.underlying65
  have hu3 := Try.underlying40
  have hu4 := Try.underlying43
  go_enter Try.func45, Try.ntmps45
  go_wp2_with fail
  refine (value_any (H.out.below (below_alloc (Below.refl _ _) _)) c.f2.f1).mono ?_
  rintro e w1 ⟨v0, o0, rfl, rfl⟩
  go_wp2_with fail
  go_loop [45] (fun s => ∃ k : Nat, k ≤ c.f3.f2.length ∧ s = .int .i64 k ∧ snapB cs mk c.f3.f2 c.f3.f3 k) (fun s => c.f3.f2.length - (intOf s).toNat)
  case atStart => exact ⟨0, Nat.zero_le _, rfl, fun j hj => by omega⟩
  case round =>
    obtain ⟨k, hk, rfl, hs⟩ := hrel
    have HS := Lib.hid hs
    clear hs
    by_cases hlt : k < c.f3.f2.length
    · have hlt2 : k < c.f3.f3.length := by rw [← HG.out.2.2.2.2]; exact hlt
      have hlD : decide ((k : Int) < (c.f3.f2.length : Int)) = true := by simp; omega
      obtain ⟨ad, e7, x7⟩ := Kd.at_int HG.out.2.1 (k : Int) (by omega) (by omega)
      obtain ⟨ae, e8, x8⟩ := Kd.at_string HG.out.2.2.2.1 (k : Int) (by omega) (by omega)
      subst e7
      subst e8
      simp only [Int.toNat_natCast] at x7 x8
      have pa := World.block_lt_of_cell? w _ x7
      have pb := World.block_lt_of_cell? w _ x8
      obtain ⟨u, hu⟩ : ∃ u, u = rd c.f3.f2 (k : Int) := ⟨_, rfl⟩
      obtain ⟨v, hv⟩ : ∃ v, v = rdOf ByteArray.empty c.f3.f3 (k : Int) := ⟨_, rfl⟩
      rw [← hu] at x7
      rw [← hv] at x8
      have HU := Lib.hid (show c.f3.f2.getD k 0 = u ∧ c.f3.f3.getD k ⟨#[]⟩ = v from ⟨hu.symm, hv.symm⟩)
      clear hu hv
      cases hmk : mk u with
      | none =>
        have HM := Lib.hid hmk
        clear hmk
        go_wp2_with fail
        refine (value_none (H.out.below (below_alloc (Below.refl _ _) _)) u HM.out).mono ?_
        rintro e w1 ⟨rfl, rfl⟩
        go_wp2_with fail
        go_ret
        refine ⟨?_, below_alloc (Below.refl _ _) _⟩
        rw [decide_eq_false]
        · rfl
        · intro q
          have := q k hlt
          rw [HU.out.1] at this
          unfold givenV at this
          rw [HM.out] at this
          cases this
      | some n =>
        have hq := str_forms (rd_T70 cs n).f2.f2 v
        have HM := Lib.hid hmk
        clear hmk
        obtain ⟨x, hx⟩ : ∃ x, x = (rd_T70 cs n).f2.f2 := ⟨_, rfl⟩
        rw [← hx] at hq
        have HX := Lib.hid hx
        clear hx
        rcases hq with ⟨h1, h2, h3⟩ | ⟨h1, h2, h3⟩
        · have H1 := Lib.hid h1
          clear h1
          go_wp2_with fail
          refine (value_some (H.out.below (below_alloc (Below.refl _ _) _)) u n HM.out).mono ?_
          rw [← HX.out]
          rintro e w1 ⟨rfl, rfl⟩
          go_wp2_with fail
          go_round
          case rel => exact ⟨k + 1, hlt, by go_num, snapB_succ HS.out (by rw [HU.out.1, HU.out.2]; unfold givenV; rw [HM.out, ← H1.out, HX.out]; rfl)⟩
          case measure => simp [intOf]; omega
        · have H1 := Lib.hid h1
          clear h1
          go_wp2_with fail
          refine (value_some (H.out.below (below_alloc (Below.refl _ _) _)) u n HM.out).mono ?_
          rw [← HX.out]
          rintro e w1 ⟨rfl, rfl⟩
          go_wp2_with fail
          go_ret
          refine ⟨?_, below_alloc (Below.refl _ _) _⟩
          rw [decide_eq_false]
          · rfl
          · intro q
            have := q k hlt
            rw [HU.out.1, HU.out.2] at this
            unfold givenV at this
            rw [HM.out] at this
            exact H1.out (by rw [HX.out]; simpa using this)
    · obtain rfl : k = c.f3.f2.length := by omega
      go_wp2_with fail
      go_ret
      exact ⟨by rw [decide_eq_true HS.out]; rfl, below_alloc (Below.refl _ _) _⟩
theorem fits_calls {w : World} {p : Nat} {cs : List S70} {mk : Mk} {A : Option Addr} {cc b : Nat} (h : BookAt w p cs mk A cc b) (c : S70) (A7 : Option Addr) (c7 : Nat) (A8 : Option Addr) (c8 : Nat)
    (l7 : c.f3.f2.length ≤ c7) (g7 : (Kd.int .i64).C w A7 c.f3.f2.length c.f3.f2) (l8 : c.f3.f3.length ≤ c8) (g8 : Kd.string.C w A8 c.f3.f3.length c.f3.f3) (hl : c.f2.f0 ≠ 1 → c.f2.f0 ≠ 2 → c.f3.f2.length = c.f3.f3.length) (hm : c.f3.f2.length ≤ 9223372036854775807) :
    Calls Try.prog 45 #[.pointer (some ⟨p, 0, none⟩), callV c A7 c7 A8 c8] w fun e w' => e = .returned (.bool (fitsB cs mk c)) ∧ Below w.heap.size w w' := by
  by_cases k1 : c.f2.f0 = 1
  · exact fits_pub h c A7 c7 A8 c8 k1
  · by_cases k2 : c.f2.f0 = 2
    · exact fits_look h c A7 c7 A8 c8 k2
    · exact fits_snap h c A7 c7 A8 c8 k1 k2 l7 g7 l8 g8 (hl k1 k2) hm
theorem begins_eq (m : S45) (h2 : m.f3.f2.length ≤ 2147483647) (h3 : m.f3.f3.length ≤ 2147483647) : beginsB m = (opB m.f2 && zeroR m.f3) := by
  have h := begins_some m
  have hw : wrap64 ((m.f3.f2.length : Int) + (m.f3.f3.length : Int)) = (m.f3.f2.length : Int) + (m.f3.f3.length : Int) := by unfold wrap64; omega
  unfold hist_begins.f at h
  rw [hw] at h
  have hj : ∀ b, hist_begins.j0 1 b m.f2.f0 m.f2.f1 m.f2.f2 = some (if b = true then false else opB m.f2) := by
    intro b
    simp only [hist_begins.j0, opB]
    cases b
    · simp only [Bool.false_eq_true, if_false]
      by_cases c1 : m.f2.f0 = 1
      · rw [if_pos c1, if_pos c1]
      · rw [if_neg c1, if_neg c1]
        by_cases c2 : m.f2.f0 = 2
        · rw [if_pos c2, if_pos c2]
        · rw [if_neg c2, if_neg c2]
          by_cases c3 : m.f2.f0 = 3
          · rw [if_pos c3, if_pos c3, c3]
            simp [Bool.and_comm]
          · rw [if_neg c3, if_neg c3]
    · rfl
  simp only [hj] at h
  unfold zeroR
  cases q0 : m.f3.f0 with
  | true =>
    rw [q0, if_pos rfl] at h
    rw [← Option.some.inj h]
    simp
  | false =>
    rw [q0, if_neg (by simp)] at h
    by_cases q1 : m.f3.f1.toList = ([] : List UInt8)
    · rw [if_pos q1] at h
      rw [← Option.some.inj h, q1]
      by_cases q2 : m.f3.f2.length = 0
      · by_cases q3 : m.f3.f3.length = 0
        · simp [q2, q3]
        · rw [if_pos (by simp; omega), decide_eq_false q3]
          simp
      · rw [if_pos (by simp; omega), decide_eq_false q2]
        simp
    · rw [if_neg q1] at h
      have : (m.f3.f1.toList == ([] : List UInt8)) = false := beq_eq_false_iff_ne.mpr q1
      rw [← Option.some.inj h, this]
      simp
theorem asc01 (l : List Int) : ascFrom l 0 = ascFrom l 1 := decide_eq_decide.2 ⟨fun h j a _ c => h j a (Nat.zero_le _) c, fun h j a _ c => h j a c c⟩
theorem ends_eq (o : S40) (r : S43) (ho : opB o = true) (h2 : r.f2.length ≤ 2147483647) (h3 : r.f3.length ≤ 2147483647) : endsB o r = replyB o r := by
  have h := ends_some o r (by omega)
  have hl := ends_loop r (by omega) (r.f2.length + 1) 0 (Nat.zero_le _) (by omega)
  have hw : wrap64 ((r.f2.length : Int) + (r.f3.length : Int)) = (r.f2.length : Int) + (r.f3.length : Int) := by unfold wrap64; omega
  have hz : (!decide ((r.f2.length : Int) + (r.f3.length : Int) > 0)) = (decide (r.f2.length = 0) && decide (r.f3.length = 0)) := by
    by_cases a : r.f2.length = 0
    · by_cases b : r.f3.length = 0
      · simp [a, b]
      · rw [decide_eq_true (by omega), decide_eq_false b]; simp
    · rw [decide_eq_true (by omega), decide_eq_false a]; simp
  unfold hist_ends.f at h
  rw [hw, hz] at h
  unfold replyB
  have hk : o.f0 = 1 ∨ o.f0 = 2 ∨ o.f0 = 3 := by
    unfold opB at ho
    by_cases c1 : o.f0 = 1
    · exact .inl c1
    · by_cases c2 : o.f0 = 2
      · exact .inr (.inl c2)
      · by_cases c3 : o.f0 = 3
        · exact .inr (.inr c3)
        · rw [if_neg c1, if_neg c2, if_neg c3] at ho; cases ho
  rcases hk with k | k | k
  · rw [if_pos k] at h
    rw [if_neg (by omega), k]
    by_cases q : r.f1.toList = ([] : List UInt8)
    · rw [if_pos q] at h
      rw [← Option.some.inj h, q]
      simp
    · rw [if_neg q] at h
      rw [← Option.some.inj h, show (r.f1.toList == ([] : List UInt8)) = false from beq_eq_false_iff_ne.mpr q]
      simp
  · rw [if_neg (by omega), if_pos k] at h
    rw [if_neg (by omega), k]
    cases q0 : r.f0 with
    | true =>
      rw [q0, if_pos rfl] at h
      rw [← Option.some.inj h]
      simp
    | false =>
      rw [q0, if_neg (by simp)] at h
      by_cases q : r.f1.toList = ([] : List UInt8)
      · rw [if_pos q] at h
        rw [← Option.some.inj h, q]
        simp
      · rw [if_neg q] at h
        rw [← Option.some.inj h, show (r.f1.toList == ([] : List UInt8)) = false from beq_eq_false_iff_ne.mpr q]
        simp
  · rw [if_neg (by omega), if_neg (by omega)] at h
    rw [if_pos k]
    rw [show (0 : Int) = ((0 : Nat) : Int) from rfl, hl] at h
    rw [← Option.some.inj h, asc01]
    unfold tailB
    cases r.f0 <;> cases (r.f1.toList == ([] : List UInt8)) <;> cases decide (r.f2.length = r.f3.length) <;> cases ascFrom r.f2 1 <;> rfl
theorem IMap.run_len {P : Program} {w : World} {b : Nat} {f : Int → Option Value} {t K E : TypeId} (ht : P.underlying t = some (.map K E)) (h : IMap w b f) (ty : TypeId) :
    ∃ k : Nat, (Builtin.len_ #[t] ty #[.map (some b)]).run P w = .ok (.int .i64 (k : Nat)) w ∧ (k = 0 ↔ ∀ j, f j = none) := by
  obtain ⟨es, clock, hb, hs, hk, hf⟩ := h
  refine ⟨es.size, by simp [Builtin.len_, run_underlying ht, Go.MapKept.run_getObj_map hb, goInt, Result.andThen], fun h0 j => ?_, fun hn => ?_⟩
  · rw [← hf j]
    exact look_none fun x hx => by
      have : es.toList = [] := List.eq_nil_of_length_eq_zero (by simpa using h0)
      rw [this] at hx
      cases hx
  · rcases Nat.eq_zero_or_pos es.size with q | q
    · exact q
    · have hm : es[0] ∈ es.toList := by simp
      obtain ⟨k, he⟩ := isKey_form (hk _ hm)
      have := look_some hs.2.2 hm he
      rw [hf k, hn k] at this
      cases this
theorem own_setS {w : World} {base : Nat} {e : TypeId} {size n g c : Nat} {xs : List Value} (h : w.ownsRow base e size (.slice (some ⟨g, 0, none⟩) n c) n xs) (i : Nat) (u : Value) :
    (w.setCell ⟨g, i, none⟩ u).ownsRow base e size (.slice (some ⟨g, 0, none⟩) n c) n (xs.set i u) := by
  refine ⟨by simpa using h.1, ?_⟩
  rcases h.2 with ⟨h0, _⟩ | ⟨g', cap, cur, hv, hb, hg, hn, hm, hs, ht⟩
  · cases h0
  · injection hv with h1 _ h3
    injection h1 with h1
    injection h1 with h1 _ _
    subst h1; subst h3
    refine .inr ⟨g, c, _, rfl, hb, blk_set hg i u, hn, hm, by simpa using hs, ?_⟩
    rw [← ht]
    simp only [Array.toList_setIfInBounds, List.take_set]
theorem reps_set {α : Type} {R : α → List Value → Prop} {size : Nat} {ps : List α} {cs row : List Value} {p : α} (h : Reps R size ps cs) (n : Nat) (hn : n < ps.length) (hp : R p row) (hl : row.length = size) (cs' : List Value)
    (hlen : cs'.length = cs.length) (hin : ∀ j, j < size → cs'[n * size + j]? = row[j]?) (hout : ∀ k, k < n * size ∨ n * size + size ≤ k → cs'[k]? = cs[k]?) : Reps R size (ps.set n p) cs' := by
  refine ⟨by rw [hlen, h.1, List.length_set], fun j q hq => ?_⟩
  by_cases hj : j = n
  · subst hj
    have hq' : p = q := by
      rw [List.getElem?_set_self hn] at hq
      exact Option.some.inj hq
    subst hq'
    have : (cs'.drop (j * size)).take size = row := by
      refine List.ext_getElem? fun k => ?_
      rw [List.getElem?_take]
      split
      · rename_i hk
        rw [List.getElem?_drop]
        exact hin k hk
      · rename_i hk
        rw [List.getElem?_eq_none (by omega)]
    rw [this]
    exact hp
  · rw [List.getElem?_set_ne (fun e => hj e.symm)] at hq
    have : (cs'.drop (j * size)).take size = (cs.drop (j * size)).take size := by
      refine List.ext_getElem? fun k => ?_
      rw [List.getElem?_take, List.getElem?_take]
      split
      · rename_i hk
        rw [List.getElem?_drop, List.getElem?_drop]
        refine hout _ ?_
        rcases Nat.lt_or_ge j n with q | q
        · have := Nat.mul_le_mul_right size (show j + 1 ≤ n from q)
          rw [Nat.add_mul] at this
          omega
        · have := Nat.mul_le_mul_right size (show n + 1 ≤ j by omega)
          rw [Nat.add_mul] at this
          omega
      · rfl
    rw [this]
    exact h.2 j q hq
theorem call_set {w w1 : World} {base g c n : Nat} {cs : List S70} (h : OwnRow (k70.K w) 65 9 w1 base (.slice (some ⟨g, 0, none⟩) cs.length c) cs) (hn : n < cs.length) (i : Int) (r : S43) (A7 : Option Addr) (c7 : Nat) (A8 : Option Addr) (c8 : Nat)
    (l7 : r.f2.length ≤ c7) (g7 : (Kd.int .i64).C w A7 r.f2.length r.f2) (l8 : r.f3.length ≤ c8) (g8 : Kd.string.C w A8 r.f3.length r.f3) :
    OwnRow (k70.K w) 65 9 (((((w1.setCell ⟨g, n * 9 + 1, none⟩ (.int .i64 i)).setCell ⟨g, n * 9 + 5, none⟩ (.bool r.f0)).setCell ⟨g, n * 9 + 5 + 1, none⟩ (.string r.f1)).setCell ⟨g, n * 9 + 5 + 2, none⟩ (.slice A7 r.f2.length c7)).setCell ⟨g, n * 9 + 5 + 3, none⟩ (.slice A8 r.f3.length c8))
      base (.slice (some ⟨g, 0, none⟩) cs.length c) (cs.set n ⟨(rd_T70 cs n).f0, i, (rd_T70 cs n).f2, r⟩) := by
  obtain ⟨inner, ho, hr⟩ := h
  refine ⟨_, by rw [List.length_set]; exact own_setS (own_setS (own_setS (own_setS (own_setS ho _ _) _ _) _ _) _ _) _ _, reps_set hr n hn (k70_mk w ⟨(rd_T70 cs n).f0, i, (rd_T70 cs n).f2, r⟩ l7 g7 l8 g8) rfl _ (by simp) ?_ ?_⟩
  · have hl : n * 9 + 9 ≤ inner.length := by rw [hr.1]; omega
    have hd : cs[n]? = some (rd_T70 cs n) := by unfold rd_T70; rw [Int.toNat_natCast, List.getD_eq_getElem?_getD, List.getElem?_eq_getElem hn]; rfl
    obtain ⟨B7, b7, B8, b8, hrow, _⟩ := k70_open (hr.2 n _ hd)
    have hin : ∀ j, j < 9 → inner[n * 9 + j]? = ((inner.drop (n * 9)).take 9)[j]? := fun j hj => by rw [List.getElem?_take, if_pos hj, List.getElem?_drop]
    rw [hrow] at hin
    intro j hj
    rcases j with _ | _ | _ | _ | _ | _ | _ | _ | _ | j
    · rw [List.getElem?_set_ne (by omega), List.getElem?_set_ne (by omega), List.getElem?_set_ne (by omega), List.getElem?_set_ne (by omega), List.getElem?_set_ne (by omega)]; exact hin 0 (by omega)
    · simp [List.getElem?_set]; omega
    · rw [List.getElem?_set_ne (by omega), List.getElem?_set_ne (by omega), List.getElem?_set_ne (by omega), List.getElem?_set_ne (by omega), List.getElem?_set_ne (by omega)]; exact hin 2 (by omega)
    · rw [List.getElem?_set_ne (by omega), List.getElem?_set_ne (by omega), List.getElem?_set_ne (by omega), List.getElem?_set_ne (by omega), List.getElem?_set_ne (by omega)]; exact hin 3 (by omega)
    · rw [List.getElem?_set_ne (by omega), List.getElem?_set_ne (by omega), List.getElem?_set_ne (by omega), List.getElem?_set_ne (by omega), List.getElem?_set_ne (by omega)]; exact hin 4 (by omega)
    · simp [List.getElem?_set]; omega
    · simp [List.getElem?_set]; omega
    · simp [List.getElem?_set]; omega
    · simp [List.getElem?_set]; omega
    · omega
  · intro k hk
    simp only [List.getElem?_set]
    rw [if_neg (by omega), if_neg (by omega), if_neg (by omega), if_neg (by omega), if_neg (by omega)]
/-- behind the two stores of read -/
def stored (w1 : World) (g n : Nat) (i : Int) (r : S43) (A7 : Option Addr) (c7 : Nat) (A8 : Option Addr) (c8 : Nat) : World :=
  (((((w1.setCell ⟨g, n * 9 + 1, none⟩ (.int .i64 i)).setCell ⟨g, n * 9 + 5, none⟩ (.bool r.f0)).setCell ⟨g, n * 9 + 5 + 1, none⟩ (.string r.f1)).setCell ⟨g, n * 9 + 5 + 2, none⟩ (.slice A7 r.f2.length c7)).setCell ⟨g, n * 9 + 5 + 3, none⟩ (.slice A8 r.f3.length c8)).drew
theorem stored_only (w1 : World) (g n : Nat) (i : Int) (r : S43) (A7 : Option Addr) (c7 : Nat) (A8 : Option Addr) (c8 : Nat) : Only w1 (stored w1 g n i r A7 c7 A8 c8) (fun b => b = g) := by
  have st : ∀ (W : World) (k : Nat) (u : Value), Only w1 W (fun b => b = g) → Only w1 (W.setCell ⟨g, k, none⟩ u) (fun b => b = g) := fun W k u h => Only.setCell (S := fun b => b = g) h (p := ⟨g, k, none⟩) (.inl rfl) u
  exact Only.drew (st _ _ _ (st _ _ _ (st _ _ _ (st _ _ _ (st _ _ _ (Only.refl _ _))))))
theorem stored_row {w w1 : World} {base g c n : Nat} {cs : List S70} (h : OwnRow (k70.K w) 65 9 w1 base (.slice (some ⟨g, 0, none⟩) cs.length c) cs) (hn : n < cs.length) (i : Int) (r : S43) (A7 : Option Addr) (c7 : Nat) (A8 : Option Addr) (c8 : Nat)
    (l7 : r.f2.length ≤ c7) (g7 : (Kd.int .i64).C w A7 r.f2.length r.f2) (l8 : r.f3.length ≤ c8) (g8 : Kd.string.C w A8 r.f3.length r.f3) :
    OwnRow (k70.K w) 65 9 (stored w1 g n i r A7 c7 A8 c8) base (.slice (some ⟨g, 0, none⟩) cs.length c) (cs.set n ⟨(rd_T70 cs n).f0, i, (rd_T70 cs n).f2, r⟩) :=
  (call_set h hn i r A7 c7 A8 c8 l7 g7 l8 g8).below (below_drew1 (Below.refl _ _))
def opnV (s : RS) : Int → Option Value := fun k => (s.opn k).map fun n => .int .i64 (n : Nat)
/-- ahead of the i-th moment -/
structure RInv (w wr : World) (l0 : List S45) (i : Nat) (s : RS) (v : Value) : Prop where
  now : rat l0 i = some s
  row : OwnRow (k70.K w) 65 9 wr w.heap.size v s.calls
  map : IMap wr w.heap.size (opnV s)
  below : Below w.heap.size w wr
/-- what read answers -/
def ReadEnd (w w' : World) (v : Value) (b : Bool) : Option RS → Prop
  | none => v = .slice none 0 0 ∧ b = false
  | some s => OwnRow (k70.K w) 65 9 w' w.heap.size v s.calls ∧ (b = true ↔ (∀ k, s.opn k = none) ∧ s.calls.length ≤ 64)
theorem rat_none {l0 : List S45} {i : Nat} (h : rat l0 i = none) : ∀ j, i ≤ j → j ≤ l0.length → rat l0 j = none := by
  intro j hij
  induction hij with
  | refl => exact fun _ => h
  | @step j hij ih =>
    intro hj
    rw [rat_succ l0 j _ (List.getElem?_eq_getElem (show j < l0.length by omega)), ih (by omega)]
    rfl
/-- a moment that is refused -/
theorem RInv.refused {w wr w' : World} {l0 : List S45} {i : Nat} {s : RS} {v : Value} {m : S45} (h : RInv w wr l0 i s v) (hm : l0[i]? = some m) (hn : rstep i m s = none) : ReadEnd w w' (.slice none 0 0) false (rat l0 l0.length) := by
  have hi := (List.getElem?_eq_some_iff.1 hm).1
  have : rat l0 (i + 1) = none := by rw [rat_succ l0 i m hm, h.now]; exact hn
  rw [rat_none this l0.length (by omega) (Nat.le_refl _)]
  exact ⟨rfl, rfl⟩
theorem nameW {C : Code} {Q : Exit → Act → World → Prop} {a : Act} {W : World} (h : ∀ V, V = W → Code.wp Try.prog C Q a V) : Code.wp Try.prog C Q a W := h W rfl
theorem own_not_map {w : World} {b : Nat} {f : Int → Option Value} {base : Nat} {e : TypeId} {size n : Nat} {v : Value} {xs : List Value} (hm : IMap w b f) (ho : w.ownsRow base e size v n xs) : ∀ g, v.ownBlock = some g → g ≠ b := by
  rintro g hg rfl
  obtain ⟨es, clock, h1, _⟩ := hm
  obtain ⟨cells, h2⟩ := own_typed ho g hg
  rw [h1] at h2
  cases h2
theorem RInv.mid {w wr w1 w2 : World} {l0 : List S45} {i : Nat} {s : RS} {v : Value} {o : Obj} (h : RInv w wr l0 i s v) (hb : Below (wr.alloc o).heap.size (wr.alloc o) w1) (ht : Turned w1 w2 w.heap.size) :
    OwnRow (k70.K w) 65 9 w2 w.heap.size v s.calls ∧ Below w.heap.size w w2 ∧ w.heap.size ≤ w2.heap.size := by
  have hB1 : Below w.heap.size w w1 := below_step (below_alloc h.below o) hb
  have h1 : OwnRow (k70.K w) 65 9 w1 w.heap.size v s.calls := (h.row.below (below_alloc (Below.refl _ _) o)).below hb
  have hm1 : IMap w1 w.heap.size (opnV s) := (h.map.only (S := fun _ => False) ((Only.refl _ _).alloc o) (fun q => q)).of_block (hb.block _ (Nat.lt_of_lt_of_le h.map.lt (by simp)))
  obtain ⟨inner, ho, hr⟩ := h1
  have hB2 : Below w.heap.size w w2 := hB1.trans ((ht.only (S := fun b => b = w.heap.size) rfl).below (below_size hB1) (fun b e => Nat.le_of_eq e.symm))
  exact ⟨⟨inner, (ht.only (S := fun b => b = w.heap.size) rfl).row ho (own_not_map hm1 ho), hr⟩, hB2, below_size hB2⟩
theorem opnV_upd (s : RS) (cs : List S70) (k : Int) (n : Nat) : opnV ⟨cs, upd1 s.opn k (some n)⟩ = fun j => if j = k then some (.int .i64 (n : Nat)) else opnV s j := by
  funext j
  unfold opnV upd1
  dsimp only
  split <;> rfl
theorem opnV_del (s : RS) (cs : List S70) (k : Int) : opnV ⟨cs, upd1 s.opn k none⟩ = fun j => if j = k then none else opnV s j := by
  funext j
  unfold opnV upd1
  dsimp only
  split <;> rfl
theorem info_call : (Try.prog.info? 65).map (fun i => (i.zero, i.size, i.bytes)) = some (some (.agg #[(.int .i64 0), (.int .i64 0), (.int .i64 0), (.int .i64 0), (.string ⟨#[]⟩), (.bool false), (.string ⟨#[]⟩), (.slice none 0 0), (.slice none 0 0)]), 9, 120) := by kernel_rfl
theorem rstep_len {i : Nat} {m : S45} {s s' : RS} (h : rstep i m s = some s') : s'.calls.length ≤ s.calls.length + 1 := by
  unfold rstep at h
  split at h
  · split at h
    · obtain rfl := Option.some.inj h; simp
    · cases h
  · split at h
    · cases h
    · split at h
      · obtain rfl := Option.some.inj h; simp
      · cases h
theorem rat_len {l0 : List S45} : ∀ (i : Nat) (s : RS), i ≤ l0.length → rat l0 i = some s → s.calls.length ≤ i := by
  intro i
  induction i with
  | zero => intro s _ h; cases h; simp
  | succ i ih =>
    intro s hi h
    rw [rat_succ l0 i _ (List.getElem?_eq_getElem (show i < l0.length by omega))] at h
    obtain ⟨s1, h1, h2⟩ := Option.bind_eq_some_iff.1 h
    have := ih s1 (by omega) h1
    have := rstep_len h2
    omega
theorem RInv.begun {w wr w2 w3 : World} {l0 : List S45} {i : Nat} {s : RS} {v v1 : Value} {m : S45} (h : RInv w wr l0 i s v) (hm : l0[i]? = some m) (hb1 : m.f1 = true) (hop : s.opn m.f0 = none) (hbg : beginsB m = true)
    (hm2 : IMap w2 w.heap.size (fun j => if j = m.f0 then some (.int .i64 (s.calls.length : Nat)) else opnV s j)) (ho2 : OwnRow (k70.K w) 65 9 w2 w.heap.size v s.calls) (hg : w2.grownBy w3 v.ownBlock) (hB : Below w.heap.size w w3)
    (ho3 : OwnRow (k70.K w) 65 9 w3 w.heap.size v1 (s.calls ++ [⟨(i : Int), 0, m.f2, z43⟩])) : RInv w w3 l0 (i + 1) ⟨s.calls ++ [⟨(i : Int), 0, m.f2, z43⟩], upd1 s.opn m.f0 (some s.calls.length)⟩ v1 := by
  obtain ⟨inner, hi, _⟩ := ho2
  refine ⟨?_, ho3, ?_, hB⟩
  · rw [rat_succ l0 i m hm, h.now]
    show rstep i m s = _
    unfold rstep
    rw [if_pos hb1, if_pos ⟨hop, hbg⟩]
  · rw [opnV_upd]
    exact hm2.of_block (hg.block _ hm2.lt (fun e => own_not_map hm2 hi _ e.symm rfl))
theorem RInv.ended {w wr V3 w4 : World} {l0 : List S45} {i n : Nat} {s : RS} {v : Value} {m : S45} {f : Int → Option Value} (h : RInv w wr l0 i s v) (hm : l0[i]? = some m) (hb1 : m.f1 = false) (hop : s.opn m.f0 = some n) (heq : opEq (rd_T70 s.calls n).f2 m.f2) (he : endsB m.f2 m.f3 = true)
    (ho3 : OwnRow (k70.K w) 65 9 V3 w.heap.size v (s.calls.set n ⟨(rd_T70 s.calls n).f0, (i : Int), (rd_T70 s.calls n).f2, m.f3⟩)) (hm3 : IMap V3 w.heap.size f) (hB : Below w.heap.size w V3)
    (hm4 : IMap w4 w.heap.size (fun j => if j = m.f0 then none else opnV s j)) (ht : Turned V3 w4 w.heap.size) : RInv w w4 l0 (i + 1) ⟨s.calls.set n ⟨(rd_T70 s.calls n).f0, (i : Int), (rd_T70 s.calls n).f2, m.f3⟩, upd1 s.opn m.f0 none⟩ v := by
  obtain ⟨inner, hi, hr⟩ := ho3
  have hon := ht.only (S := fun b => b = w.heap.size) rfl
  refine ⟨?_, ⟨inner, hon.row hi (own_not_map hm3 hi), hr⟩, ?_, hB.trans (hon.below (below_size hB) (fun b e => Nat.le_of_eq e.symm))⟩
  · rw [rat_succ l0 i m hm, h.now]
    show rstep i m s = _
    unfold rstep
    rw [hb1, if_neg (by simp), hop]
    dsimp only
    rw [if_pos ⟨heq, he⟩]
  · rw [opnV_del]
    exact hm4
theorem RInv.done {w wr : World} {l0 : List S45} {s : RS} {v : Value} (h : RInv w wr l0 l0.length s v) {k : Nat} (hk : k = 0 ↔ ∀ j, opnV s j = none) (b : Bool) (hb : b = true ↔ k = 0 ∧ s.calls.length ≤ 64) : ReadEnd w wr v b (rat l0 l0.length) := by
  rw [h.now]
  refine ⟨h.row, hb.trans ⟨fun q => ⟨fun j => ?_, q.2⟩, fun q => ⟨hk.2 fun j => ?_, q.2⟩⟩⟩
  · have := hk.1 q.1 j
    unfold opnV at this
    cases e : s.opn j with
    | none => rfl
    | some n => rw [e] at this; cases this
  · unfold opnV
    rw [q.1 j]
    rfl
theorem rstep_opn {i : Nat} {m : S45} {s s' : RS} (hs : ∀ k n, s.opn k = some n → n < s.calls.length) (h : rstep i m s = some s') : ∀ k n, s'.opn k = some n → n < s'.calls.length := by
  unfold rstep at h
  split at h
  · split at h
    · obtain rfl := Option.some.inj h
      intro k n hk
      simp only [upd1] at hk
      split at hk
      · cases hk; simp
      · have := hs k n hk; simp; omega
    · cases h
  · split at h
    · cases h
    · split at h
      · obtain rfl := Option.some.inj h
        intro k n hk
        simp only [upd1] at hk
        split at hk
        · cases hk
        · have := hs k n hk; simpa using this
      · cases h
theorem rat_opn {l0 : List S45} : ∀ (i : Nat) (s : RS), i ≤ l0.length → rat l0 i = some s → ∀ k n, s.opn k = some n → n < s.calls.length := by
  intro i
  induction i with
  | zero => intro s _ h; cases h; intro k n hk; cases hk
  | succ i ih =>
    intro s hi h
    rw [rat_succ l0 i _ (List.getElem?_eq_getElem (show i < l0.length by omega))] at h
    obtain ⟨s1, h1, h2⟩ := Option.bind_eq_some_iff.1 h
    exact rstep_opn (ih s1 (by omega) h1) h2
/-- where the calls lie: a row of one's own, cell by cell -/
theorem RInv.at_row {w wr : World} {l0 : List S45} {i : Nat} {s : RS} {A : Option Addr} {c : Nat} (h : RInv w wr l0 i s (.slice A s.calls.length c)) (n : Nat) (hn : n < s.calls.length) :
    ∃ g cap, (.slice A s.calls.length c : Value) = .slice (some ⟨g, 0, none⟩) s.calls.length cap ∧ w.heap.size ≤ g ∧ ∃ cur, wr.heap[g]? = some (.cells cur 65 (0, 0)) ∧ s.calls.length * 9 ≤ cur.size := by
  obtain ⟨inner, ho, hr⟩ := h.row
  rcases ho.2 with ⟨h0, _⟩ | ⟨g, cap, cur, hv, hb, hg, hn1, hm, hs, ht⟩
  · injection h0 with _ h0 _
    omega
  · refine ⟨g, cap, hv, hb, cur, hg, ?_⟩
    rw [hs]
    exact Nat.mul_le_mul_right 9 hn1
theorem opEq_iff {a b : S40} : (a.f0 == b.f0 && (a.f1 == b.f1 && (a.f2.toList == b.f2.toList))) = true ↔ opEq a b := by
  unfold opEq
  simp only [Bool.and_eq_true, beq_iff_eq]
  constructor
  · rintro ⟨h0, h1, h2⟩
    exact ⟨h0, h1, (Lib.bytes_beq_iff _ _).1 (beq_iff_eq.2 h2)⟩
  · rintro ⟨h0, h1, h2⟩
    rw [h0, h1, h2]
    exact ⟨rfl, rfl, rfl⟩
set_option maxRecDepth 200000 in
set_option maxHeartbeats 4000000 in
theorem read_walk (w : World) (A : Option Addr) (c : Nat) (l0 : List S45) (hr : Kd.C k45 w A l0.length l0) (hc : l0.length ≤ c) (hl : l0.length ≤ 2147483647) :
    Calls Try.prog 26 #[.slice A l0.length c] w fun e w' => Below w.heap.size w w' ∧ ∃ v b, e = .returned (.tuple #[v, .bool b]) ∧ ReadEnd w w' v b (rat l0 l0.length) := by
  have HR := Lib.hid hr
  have HL := Lib.hid (And.intro hc hl)
  clear hr hc
  have hmm := @run_makeMap Try.prog
  have hu45 := Try.underlying45
  have hu40 := Try.underlying40
  have hu43 := Try.underlying43
  go_enter Try.func26, Try.ntmps26
  go_wp2_with fail
  go_loopw [4, 13] (fun s4 s13 wr => ∃ (i : Nat) (s : RS), i ≤ l0.length ∧ s13 = .int .i64 i ∧ RInv w wr l0 i s s4) (fun _ s13 _ => l0.length - (intOf s13).toNat)
  case atStart => exact ⟨0, _, Nat.zero_le _, rfl, rat_zero l0, OwnRow.none_ _ _ _ _ _, IMap.made w, below_alloc (Below.refl _ _) _⟩
  case round =>
    obtain ⟨i, s, hi, rfl, hS⟩ := hrel
    obtain ⟨A4, c4, rfl, h4⟩ := hS.row.slice_
    have HS := Lib.hid hS
    have H4 := Lib.hid h4
    clear hS h4
    by_cases hlt : i < l0.length
    · have hlD : decide ((i : Int) < (l0.length : Int)) = true := by simp; omega
      obtain ⟨ad, A7, c7, A8, c8, rfl, x0, x1, x2, x3, x4, x5, x6, x7, x8, h7, g7, h8, g8⟩ := at_T45 HR.out i (by omega) (by omega)
      have HG := Lib.hid (And.intro h7 (And.intro g7 (And.intro h8 g8)))
      clear h7 g7 h8 g8
      have mv : ∀ {p : Addr} {u : Value}, w.cell? p = some u → wr.cell? p = some u := fun h => (HS.out.below.cell (World.block_lt_of_cell? w _ h)).trans h
      replace x0 := mv x0
      replace x1 := mv x1
      replace x2 := mv x2
      replace x3 := mv x3
      replace x4 := mv x4
      replace x5 := mv x5
      replace x6 := mv x6
      replace x7 := mv x7
      replace x8 := mv x8
      clear mv
      simp only [Int.toNat_natCast] at x0 x1 x2 x3 x4 x5 x6 x7 x8
      obtain ⟨m, hm⟩ : ∃ m, m = rd_T45 l0 i := ⟨_, rfl⟩
      rw [← hm] at x0 x1 x2 x3 x4 x5 x6 x7 x8
      have HG' := HG.out
      rw [← hm] at HG'
      have HG2 := Lib.hid HG'
      clear HG HG'
      have HMM := Lib.hid (show l0[i]? = some m by rw [hm]; unfold rd_T45; rw [Int.toNat_natCast, List.getD_eq_getElem?_getD, List.getElem?_eq_getElem hlt]; rfl)
      clear hm
      have HST := Lib.hid (rat_succ l0 i m HMM.out)
      have hl : ∀ o : Obj, (Instr.lookup 56 (.map (some w.heap.size)) (.int .i64 m.f0) true).run Try.prog (wr.alloc o) = .ok (.tuple #[(opnV s m.f0).getD (.int .i64 0), .bool (opnV s m.f0).isSome]) (wr.alloc o) :=
        fun o => IMap.run_lookup2 Try.underlying56 Try.underlying3 (HS.out.map.only (S := fun _ => False) ((Only.refl _ _).alloc o) (fun q => q)) _ (by kernel_rfl) m.f0
      cases hb1 : m.f1 with
      | true =>
        rw [hb1] at x1
        cases hop : s.opn m.f0 with
        | some n =>
          have hov : opnV s m.f0 = some (.int .i64 (n : Nat)) := by unfold opnV; rw [hop]; rfl
          simp only [hov, Option.getD_some, Option.isSome_some] at hl
          clear hov
          have HOP := Lib.hid hop
          have HB1 := Lib.hid hb1
          clear hop hb1
          go_wp2_with fail
          go_ret2
          exact ⟨below_alloc HS.out.below _, _, _, rfl, HS.out.refused HMM.out (by unfold rstep; rw [if_pos HB1.out, HOP.out, if_neg (fun q => by simp at q)])⟩
        | none =>
          have hov : opnV s m.f0 = none := by unfold opnV; rw [hop]; rfl
          simp only [hov, Option.getD_none, Option.isSome_none] at hl
          clear hov
          have HOP := Lib.hid hop
          have HB1 := Lib.hid hb1
          clear hop hb1
          go_wp2_with fail
          refine (hist_begins.calls 1 m.f0 true m.f2.f0 m.f2.f1 m.f2.f2 m.f3.f0 m.f3.f1 A7 c7 m.f3.f2 A8 c8 m.f3.f3 (beginsB m) _ (Kd.C_below HG2.out.2.1 (below_alloc HS.out.below _)) HG2.out.1 (Kd.C_below HG2.out.2.2.2 (below_alloc HS.out.below _)) HG2.out.2.2.1 (by rw [← HB1.out]; exact begins_some m)).mono ?_
          rintro e w1 ⟨rfl, hb⟩
          have HW1 := Lib.hid hb
          have hbx := blk_below (blk_new wr _) hb
          clear hb hl
          cases hbg : beginsB m with
          | false =>
            go_wp2_with fail
            go_ret2
            exact ⟨below_step (below_alloc HS.out.below _) HW1.out, _, _, rfl, HS.out.refused HMM.out (by unfold rstep; rw [if_pos HB1.out, HOP.out, hbg, if_neg (fun q => by simp at q)])⟩
          | true =>
            have y0 := blk_cell hbx (i := 0) rfl
            have y1 := blk_cell hbx (i := 1) rfl
            have hm1 : IMap w1 w.heap.size (opnV s) := (HS.out.map.only (S := fun _ => False) ((Only.refl _ _).alloc _) (fun q => q)).of_block (HW1.out.block _ (Nat.lt_of_lt_of_le HS.out.map.lt (by simp)))
            obtain ⟨w2, hrun, hm2, hturn, hdr⟩ := IMap.run_update Try.underlying56 Try.underlying3 hm1 m.f0 (.int .i64 (s.calls.length : Nat))
            have hbx2 := (hturn.2.2.2.2 _ (Nat.ne_of_gt HS.out.map.lt)).trans hbx
            have z2 := blk_cell hbx2 (i := 2) rfl
            have z3 := blk_cell hbx2 (i := 3) rfl
            have z4 := blk_cell hbx2 (i := 4) rfl
            have HU := Lib.hid (And.intro hm2 (And.intro hturn hbx2))
            have HBX := Lib.hid hbx
            clear hm1 hm2 hturn hbx2 hbx hdr
            have HLN := Lib.hid (rat_len i s (by omega) HS.out.now)
            obtain ⟨hO, hBB, hbs⟩ := HS.out.mid HW1.out HU.out.2.1
            have HO := Lib.hid hO
            have HBB := Lib.hid (And.intro hBB hbs)
            clear hO hBB hbs
            go_wp2_with (refine OwnRow.append (w0 := w) w.heap.size rfl (.tmp 58) (.tmp 63) 52 65 _ 9 120 rfl Try.underlying52 info_call rfl (by decide) (by decide) _ s.calls ⟨(i : Int), 0, m.f2, z43⟩ _ rfl rfl (k70_mk w ⟨(i : Int), 0, m.f2, z43⟩ (A7 := none) (c7 := 0) (Nat.le_refl _) (Kd.C_nil _ _) (A8 := none) (c8 := 0) (Nat.le_refl _) (Kd.C_nil _ _)) rfl (by intro u hu; simp at hu; rcases hu with rfl | rfl | rfl | rfl | rfl | rfl | rfl | rfl | rfl <;> rfl) HO.out HBB.out.1 HBB.out.2 (by have := HLN.out; omega) ?_; intro v1 w3 hO3 hB3 hg3 hat3; have HO3 := Lib.hid (And.intro hO3 (And.intro hB3 hg3)); clear hO3 hB3 hg3 hat3)
            go_roundw
            case rel => exact ⟨i + 1, _, by omega, by go_num, HS.out.begun HMM.out HB1.out HOP.out hbg HU.out.1 HO.out HO3.out.2.2 HO3.out.2.1 HO3.out.1⟩
            case measure => simp [intOf]; omega
      | false =>
        rw [hb1] at x1
        cases hop : s.opn m.f0 with
        | none =>
          have hov : opnV s m.f0 = none := by unfold opnV; rw [hop]; rfl
          simp only [hov, Option.getD_none, Option.isSome_none] at hl
          clear hov
          have HOP := Lib.hid hop
          have HB1 := Lib.hid hb1
          clear hop hb1
          go_wp2_with fail
          refine nameW ?_
          intro V hV
          have HV := Lib.hid hV
          clear hV hl
          go_quiet (fail)
          go_wp2_with fail
          go_ret2
          exact ⟨pw_below_drewN (by rw [HV.out]; exact below_alloc HS.out.below _) _, _, _, rfl, HS.out.refused HMM.out (by unfold rstep; rw [HB1.out, if_neg (by simp), HOP.out])⟩
        | some n =>
          have hov : opnV s m.f0 = some (.int .i64 (n : Nat)) := by unfold opnV; rw [hop]; rfl
          simp only [hov, Option.getD_some, Option.isSome_some] at hl
          clear hov
          have hnl := rat_opn i s (by omega) HS.out.now _ _ hop
          obtain ⟨A5, c5, he5, _, hC⟩ := (HS.out.row.imp_ (fun _ _ => k70.K_below HS.out.below)).reads
          injection he5 with he5 _ hc5
          subst hc5
          rw [← he5] at hC
          clear he5
          obtain ⟨ae, E7, e7, E8, e8, hA4, q0, q1, q2, q3, q4, q5, q6, q7, q8, _, _, _, _⟩ := at_T70 (w := wr) hC n (by omega) (by omega)
          subst hA4
          clear hC
          have HOP := Lib.hid hop
          have HB1 := Lib.hid hb1
          clear hop hb1
          go_wp2_with fail
          refine nameW ?_
          intro V hV
          have hbx : V.heap[wr.heap.size]? = some (.cells #[.int .i64 m.f0, .bool false, .int .i64 m.f2.f0, .int .i64 m.f2.f1, .string m.f2.f2, .bool m.f3.f0, .string m.f3.f1, .slice A7 m.f3.f2.length c7, .slice A8 m.f3.f3.length c8] 45 (0, 0)) := by rw [hV]; exact blk_new wr _
          have hbl : Below wr.heap.size wr V := by rw [hV]; exact below_alloc (Below.refl _ _) _
          have HV := Lib.hid (And.intro hV (And.intro hbx hbl))
          have mv : ∀ {p : Addr} {u : Value}, wr.cell? p = some u → V.cell? p = some u := fun h => (hbl.cell (World.block_lt_of_cell? wr _ h)).trans h
          simp only [Int.toNat_natCast] at q0 q1 q2 q3 q4 q5 q6 q7 q8
          replace q2 := mv q2
          replace q3 := mv q3
          replace q4 := mv q4
          clear mv q0 q1 q5 q6 q7 q8 x0 x1 x2 x3 x4 x5 x6 x7 x8
          have y2 := blk_cell hbx (i := 2) rfl
          have y3 := blk_cell hbx (i := 3) rfl
          have y4 := blk_cell hbx (i := 4) rfl
          have y5 := blk_cell hbx (i := 5) rfl
          have y6 := blk_cell hbx (i := 6) rfl
          have y7 := blk_cell hbx (i := 7) rfl
          have y8 := blk_cell hbx (i := 8) rfl
          clear hV hl hbx hbl
          obtain ⟨d, hd⟩ : ∃ d, d = rd_T70 s.calls n := ⟨_, rfl⟩
          rw [← hd] at q2 q3 q4
          have HD := Lib.hid hd
          clear hd
          have hnD : decide ((n : Int) < (s.calls.length : Int)) = true := by simp; omega
          have hqq := eqA40
          cases hq : (d.f2.f0 == m.f2.f0 && (d.f2.f1 == m.f2.f1 && (d.f2.f2.toList == m.f2.f2.toList))) with
          | false =>
            go_quiet (fail)
            go_wp2_with fail
            go_ret2
            exact ⟨pw_below_drewN (HS.out.below.trans (HV.out.2.2.mono (below_size HS.out.below))) _, _, _, rfl, HS.out.refused HMM.out (by unfold rstep; rw [HB1.out, if_neg (by simp), HOP.out]; dsimp only; rw [if_neg]; rintro ⟨h1, _⟩; rw [← HD.out, ← opEq_iff, hq] at h1; cases h1)⟩
          | true =>
            refine wp_region_still_tail 17 (by kernel_rfl) (by kernel_rfl) ?_
            simp only [List.take_succ_cons, List.take_zero, List.drop_succ_cons, List.drop_zero]
            repeat still_step
            refine wpStill_nil ?_
            go_wp2_with fail
            have HBV := Lib.hid (show Below w.heap.size w V from HS.out.below.trans (HV.out.2.2.mono (below_size HS.out.below)))
            have hk2 : m.f3.f2.length ≤ 9223372036854775807 := (HG2.out.2.1).2.1
            refine (hist_ends.calls (m.f3.f2.length + 1) m.f2.f0 m.f2.f1 m.f2.f2 m.f3.f0 m.f3.f1 A7 c7 m.f3.f2 A8 c8 m.f3.f3 (endsB m.f2 m.f3) _ (Kd.C_below HG2.out.2.1 (by first | exact below_drew1 HBV.out | exact pw_below_drewN HBV.out _ | exact HBV.out)) HG2.out.1 (Kd.C_below HG2.out.2.2.2 (by first | exact below_drew1 HBV.out | exact pw_below_drewN HBV.out _ | exact HBV.out)) HG2.out.2.2.1 (ends_some _ _ hk2)).mono ?_
            clear hk2 q2 q3 q4 y2 y3 y4 y5 y6 y7 y8
            rintro e w1 ⟨rfl, hb⟩
            cases he : endsB m.f2 m.f3 with
            | false =>
              have HW1 := Lib.hid hb
              clear hb
              go_wp2_with fail
              go_ret2
              exact ⟨below_step (by first | exact below_drew1 HBV.out | exact pw_below_drewN HBV.out _ | exact HBV.out) HW1.out, _, _, rfl, HS.out.refused HMM.out (by unfold rstep; rw [HB1.out, if_neg (by simp), HOP.out]; dsimp only; rw [if_neg]; rintro ⟨_, h2⟩; rw [he] at h2; cases h2)⟩
            | true =>
              obtain ⟨g, cap, hae, hgw, cur, hcur, hcs⟩ := HS.out.at_row n (by omega)
              cases hae
              have HE := Lib.hid (And.intro he hq)
              clear he hq hqq
              have hbx1 := blk_below (show V.drew.heap[wr.heap.size]? = _ from HV.out.2.1) hb
              have hcur1 := blk_below (w := V.drew) (blk_drew (blk_below hcur HV.out.2.2)) hb
              have y5 := blk_cell hbx1 (i := 5) rfl
              have y6 := blk_cell hbx1 (i := 6) rfl
              have y7 := blk_cell hbx1 (i := 7) rfl
              have y8 := blk_cell hbx1 (i := 8) rfl
              have y0 := blk_cell hbx1 (i := 0) rfl
              have cl : ∀ j, j < 9 → ∃ u, w1.cell? ⟨g, n * 9 + j, none⟩ = some u := fun j hj => ⟨cur[n * 9 + j]'(by omega), blk_cell hcur1 (Array.getElem?_eq_getElem _)⟩
              obtain ⟨u1, kc1⟩ := cl 1 (by omega)
              obtain ⟨u5, kc5⟩ := cl 5 (by omega)
              obtain ⟨u6, kc6⟩ := cl 6 (by omega)
              obtain ⟨u7, kc7⟩ := cl 7 (by omega)
              obtain ⟨u8, kc8⟩ := cl 8 (by omega)
              have fz : ∀ i, w1.frozen? ⟨g, i, none⟩ = false := fun i => blk_frozen hcur1 i
              have HW1 := Lib.hid (And.intro hb (And.intro hbx1 (And.intro hcur1 (And.intro hgw hcs))))
              have HCUR := Lib.hid (blk_lt hcur)
              clear hb hbx1 hcur1 hgw hcs cl hcur
              go_wp2_with fail
              refine nameW ?_
              intro V2 hV2
              cases hV2
              go_region
              clear kc1 kc5 kc6 kc7 kc8 fz y5 y6 y7 y8 y0
              generalize hV3 : World.drew _ = V3
              have HV3 := Lib.hid hV3
              clear hV3
              have HST3 : Hid (V3 = stored w1 g n i m.f3 A7 c7 A8 c8) := Lib.hid HV3.out.symm
              have hon : Only w1 V3 (fun b => b = g) := by rw [HST3.out]; exact stored_only _ _ _ _ _ _ _ _ _
              have hm1 : IMap w1 w.heap.size (opnV s) := ((HS.out.map.of_block (HV.out.2.2.block _ HS.out.map.lt)).of_block (w1 := V.drew) rfl).of_block (HW1.out.1.block _ (Nat.lt_of_lt_of_le HS.out.map.lt HV.out.2.2.size))
              have hgm : w.heap.size ≠ g := fun e => by
                obtain ⟨es, clock, q1, _⟩ := hm1
                rw [e, HW1.out.2.2.1] at q1
                cases q1
              have hm3 := hm1.only hon hgm
              have hwg : wr.heap.size ≠ g := fun e => absurd HCUR.out (by omega)
              have hbx3 := hon.blk HW1.out.2.1 hwg
              have y0 := blk_cell hbx3 (i := 0) rfl
              obtain ⟨w4, hdel, hm4, hturn, hdr⟩ := IMap.run_delete Try.underlying56 Try.underlying3 hm3 0 3 m.f0
              have HM4 := Lib.hid (And.intro hm4 hturn)
              have HM3 := Lib.hid (And.intro hm3 hon)
              clear hm4 hturn hdr hm3 hm1 hbx3 hon
              go_wp2_with fail
              go_roundw
              case rel =>
                have hBV2 : Below w.heap.size w w1 := below_step (below_drew1 HBV.out) HW1.out.1
                have hB3 : Below w.heap.size w V3 := hBV2.trans (HM3.out.2.below (below_size hBV2) (fun b e => by rw [e]; exact HW1.out.2.2.2.1))
                have O1 := ((HS.out.row.below HV.out.2.2).below (below_drew1 (Below.refl _ _))).below HW1.out.1
                have O3 := stored_row O1 (n := n) (by omega) (i : Int) m.f3 A7 c7 A8 c8 HG2.out.1 HG2.out.2.1 HG2.out.2.2.1 HG2.out.2.2.2
                rw [← HST3.out] at O3
                exact ⟨i + 1, _, by omega, by go_num, HS.out.ended HMM.out HB1.out HOP.out (by rw [← HD.out]; exact opEq_iff.1 HE.out.2) HE.out.1 O3 HM3.out.1 hB3 HM4.out.1 HM4.out.2⟩
              case measure => simp [intOf]; omega
    · have hlD : decide ((i : Int) < (l0.length : Int)) = false := by simp; omega
      obtain ⟨k, hlen, hk⟩ := IMap.run_len Try.underlying56 HS.out.map 3
      have HK := Lib.hid hk
      clear hk
      obtain rfl : i = l0.length := by omega
      by_cases h0 : k = 0
      · have d0 : decide ((k : Int) = 0) = true := by simp; omega
        by_cases h64 : s.calls.length ≤ 64
        · have d1 : decide ((s.calls.length : Int) ≤ 64) = true := by simp; omega
          go_wp2_with fail
          go_ret2
          exact ⟨HS.out.below, _, _, rfl, HS.out.done HK.out _ (by simp [h0, h64])⟩
        · have d1 : decide ((s.calls.length : Int) ≤ 64) = false := by simp; omega
          go_wp2_with fail
          go_ret2
          exact ⟨HS.out.below, _, _, rfl, HS.out.done HK.out _ (by simp [h64])⟩
      · have d0 : decide ((k : Int) = 0) = false := by simp; omega
        go_wp2_with fail
        go_ret2
        exact ⟨HS.out.below, _, _, rfl, HS.out.done HK.out _ (by simp [h0])⟩
/-- what Calls answers -/
def CallsEnd (w w' : World) (v : Value) (b : Bool) : Option (List S70) → Prop
  | none => b = false ∧ ∃ A n c, v = .slice A n c
  | some cs => OwnRow (k70.K w) 70 9 w' w.heap.size v cs ∧ b = true
/-- ahead of the i-th moment -/
structure SInv (w wr : World) (l0 : List S45) (i : Nat) (s : CS) (v : Value) : Prop where
  now : cat l0 i = some s
  beg : begCount l0 l0.length ≤ 64
  row : OwnRow (k70.K w) 70 9 wr w.heap.size v s.calls
  below : Below w.heap.size w wr
theorem refB_none {l0 : List S45} {i : Nat} (hi : i ≤ l0.length) (h : cat l0 i = none) : refB l0 = none := by
  unfold refB
  rw [cat_none h l0.length hi]
  split <;> rfl
theorem info_call23 : (Try.prog.info? 70).map (fun i => (i.zero, i.size, i.bytes)) = some (some (.agg #[(.int .i64 0), (.int .i64 0), (.int .i64 0), (.int .i64 0), (.string ⟨#[]⟩), (.bool false), (.string ⟨#[]⟩), (.slice none 0 0), (.slice none 0 0)]), 9, 120) := by kernel_rfl
theorem SInv.refused {w wr w' : World} {l0 : List S45} {i : Nat} {s : CS} {v : Value} (h : SInv w wr l0 i s v) (hi : i < l0.length) (hn : cstep l0 i (rd_T45 l0 i) s = none) : CallsEnd w w' (.slice none 0 0) false (refB l0) := by
  rw [refB_none (i := i + 1) (by omega) (by show (cat l0 i).bind _ = none; rw [h.now]; exact hn)]
  exact ⟨rfl, _, _, _, rfl⟩
theorem SInv.done {w wr : World} {l0 : List S45} {s : CS} {A : Option Addr} {n c : Nat} (h : SInv w wr l0 l0.length s (.slice A n c)) (b : Bool) (hb : b = true ↔ s.ends = s.calls.length) : CallsEnd w wr (.slice A n c) b (refB l0) := by
  unfold refB
  rw [if_neg (by have := h.beg; omega), h.now]
  dsimp only [Option.bind_some]
  by_cases he : s.ends = s.calls.length
  · rw [if_pos he]
    exact ⟨h.row, hb.2 he⟩
  · rw [if_neg he]
    refine ⟨?_, _, _, _, rfl⟩
    cases b
    · rfl
    · exact absurd (hb.1 rfl) he
/-- the call that is looked for, where its end is sought from place k on -/
def CAt (w wr : World) (b : Nat) (l0 : List S45) (i : Nat) (m : S45) (E : Option Nat) (k : Nat) : Prop :=
  ∃ (tt : Int) (r : S43) (A7 : Option Addr) (c7 : Nat) (A8 : Option Addr) (c8 : Nat), wr.heap[b]? = some (.cells #[.int .i64 i, .int .i64 tt, .int .i64 m.f2.f0, .int .i64 m.f2.f1, .string m.f2.f2, .bool r.f0, .string r.f1, .slice A7 r.f2.length c7, .slice A8 r.f3.length c8] 70 (0, 0)) ∧
    (r.f2.length ≤ c7 ∧ (Kd.int .i64).C w A7 r.f2.length r.f2 ∧ r.f3.length ≤ c8 ∧ Kd.string.C w A8 r.f3.length r.f3) ∧
    ((tt = -1 ∧ r = z43 ∧ E = endAt l0 m (l0.length - k) k) ∨ ∃ p : Nat, tt = p ∧ p < l0.length ∧ r = (rd_T45 l0 p).f3 ∧ E = some p)
theorem below_set {g : Nat} {w w1 : World} (h : Below w.heap.size w w1) (hg : w.heap.size ≤ g) (j : Nat) (u : Value) : Below w.heap.size w (w1.setCell ⟨g, j, none⟩ u) :=
  h.trans ((Only.setCell (S := fun b => b = g) (Only.refl _ _) (p := ⟨g, j, none⟩) (.inl rfl) u).below (below_size h) (fun b e => by subst e; exact hg))
theorem endAt_next {l0 : List S45} {m : S45} {k : Nat} (hk : k < l0.length) (h : (rd_T45 l0 k).f0 ≠ m.f0) : endAt l0 m (l0.length - k) k = endAt l0 m (l0.length - (k + 1)) (k + 1) := by
  obtain ⟨f, hf⟩ : ∃ f, l0.length - k = f + 1 := ⟨l0.length - k - 1, by omega⟩
  rw [hf, show l0.length - (k + 1) = f by omega]
  have e : l0[k]? = some (rd_T45 l0 k) := by unfold rd_T45; rw [Int.toNat_natCast, List.getD_eq_getElem?_getD, List.getElem?_eq_getElem hk]; rfl
  show (match l0[k]? with | none => none | some x => if x.f0 ≠ m.f0 then endAt l0 m f (k + 1) else if x.f1 = false ∧ opEq x.f2 m.f2 ∧ replyB m.f2 x.f3 = true then some k else none) = _
  rw [e]
  dsimp only
  rw [if_pos h]
theorem endAt_here {l0 : List S45} {m : S45} {k : Nat} (hk : k < l0.length) (h : (rd_T45 l0 k).f0 = m.f0) : endAt l0 m (l0.length - k) k = if (rd_T45 l0 k).f1 = false ∧ opEq (rd_T45 l0 k).f2 m.f2 ∧ replyB m.f2 (rd_T45 l0 k).f3 = true then some k else none := by
  obtain ⟨f, hf⟩ : ∃ f, l0.length - k = f + 1 := ⟨l0.length - k - 1, by omega⟩
  rw [hf]
  have e : l0[k]? = some (rd_T45 l0 k) := by unfold rd_T45; rw [Int.toNat_natCast, List.getD_eq_getElem?_getD, List.getElem?_eq_getElem hk]; rfl
  show (match l0[k]? with | none => none | some x => if x.f0 ≠ m.f0 then endAt l0 m f (k + 1) else if x.f1 = false ∧ opEq x.f2 m.f2 ∧ replyB m.f2 x.f3 = true then some k else none) = _
  rw [e]
  dsimp only
  rw [if_neg (by simp [h])]
theorem endAt_end {l0 : List S45} {m : S45} : endAt l0 m (l0.length - l0.length) l0.length = none := by
  rw [Nat.sub_self]
  rfl
set_option maxRecDepth 200000 in
set_option maxHeartbeats 4000000 in
theorem calls_walk (w : World) (A : Option Addr) (c : Nat) (l0 : List S45) (hr : Kd.C k45 w A l0.length l0) (hc : l0.length ≤ c) (hl : l0.length ≤ 2147483647) :
    Calls Try.prog 12 #[.slice A l0.length c] w fun e w' => Below w.heap.size w w' ∧ ∃ v b, e = .returned (.tuple #[v, .bool b]) ∧ CallsEnd w w' v b (refB l0) := by
  have HR := Lib.hid hr
  have HL := Lib.hid (And.intro hc hl)
  clear hr hc
  have hu45 := Try.underlying45
  have hu40 := Try.underlying40
  have hu43 := Try.underlying43
  go_enter Try.func12, Try.ntmps12
  go_wp2_with fail
  go_loopw [4, 5] (fun s4 s5 wr => ∃ (i : Nat), i ≤ l0.length ∧ s4 = .int .i64 (begCount l0 i) ∧ s5 = .int .i64 i ∧ w = wr) (fun _ s5 _ => l0.length - (intOf s5).toNat)
  case atStart => exact ⟨0, Nat.zero_le _, rfl, rfl, rfl⟩
  case round =>
    obtain ⟨i, hi, rfl, rfl, rfl⟩ := hrel
    by_cases hlt : i < l0.length
    · have hlD : decide ((i : Int) < (l0.length : Int)) = true := by simp; omega
      obtain ⟨ad, A7, c7, A8, c8, rfl, x0, x1, x2, x3, x4, x5, x6, x7, x8, h7, g7, h8, g8⟩ := at_T45 HR.out i (by omega) (by omega)
      simp only [Int.toNat_natCast] at x0 x1 x2 x3 x4 x5 x6 x7 x8
      clear x0 x2 x3 x4 x5 x6 x7 x8 h7 g7 h8 g8
      have hs : begCount l0 (i + 1) = begCount l0 i + if (rd_T45 l0 i).f1 = true then 1 else 0 := rfl
      have hle := begCount_le l0 i
      cases hb1 : (rd_T45 l0 i).f1 with
      | true =>
        rw [hb1] at x1 hs
        rw [if_pos rfl] at hs
        go_wp2_with fail
        go_roundw
        case rel => exact ⟨i + 1, by omega, by rw [hs]; go_num, by go_num, trivial⟩
        case measure => simp [intOf]; omega
      | false =>
        rw [hb1] at x1 hs
        rw [if_neg (by simp)] at hs
        go_wp2_with fail
        go_roundw
        case rel => exact ⟨i + 1, by omega, by rw [hs]; rfl, by go_num, trivial⟩
        case measure => simp [intOf]; omega
    · obtain rfl : i = l0.length := by omega
      have hle := begCount_le l0 l0.length
      by_cases hg : begCount l0 l0.length > 64
      · have hgD : decide ((64 : Int) < (begCount l0 l0.length : Int)) = true := by simp; omega
        go_wp2_with fail
        go_ret2
        refine ⟨Below.refl _ _, _, _, rfl, ?_⟩
        unfold refB
        rw [if_pos hg]
        exact ⟨rfl, _, _, _, rfl⟩
      · have hgD : decide ((64 : Int) < (begCount l0 l0.length : Int)) = false := by simp; omega
        have HBG := Lib.hid (show begCount l0 l0.length ≤ 64 by omega)
        clear hle hi hlt
        go_wp2_with fail
        go_loopw [6, 7, 8] (fun s6 s7 s8 wr => ∃ (i : Nat) (s : CS), i ≤ l0.length ∧ s7 = .int .i64 s.ends ∧ s8 = .int .i64 i ∧ SInv w wr l0 i s s6) (fun _ _ s8 _ => l0.length - (intOf s8).toNat)
        case atStart => exact ⟨0, _, Nat.zero_le _, rfl, rfl, rfl, HBG.out, OwnRow.none_ _ _ _ _ _, Below.refl _ _⟩
        case round =>
          obtain ⟨i, s, hi, rfl, rfl, hS⟩ := hrel
          obtain ⟨A6, c6, rfl, h6⟩ := hS.row.slice_
          have HS := Lib.hid hS
          have H6 := Lib.hid h6
          have hcl := cat_len i s hS.now
          clear hS h6
          by_cases hlt : i < l0.length
          · have hlD : decide ((i : Int) < (l0.length : Int)) = true := by simp; omega
            obtain ⟨ad, A7, c7, A8, c8, rfl, x0, x1, x2, x3, x4, x5, x6, x7, x8, h7, g7, h8, g8⟩ := at_T45 HR.out i (by omega) (by omega)
            have HG := Lib.hid (And.intro h7 (And.intro g7 (And.intro h8 g8)))
            clear h7 g7 h8 g8
            have mv : ∀ {p : Addr} {u : Value}, w.cell? p = some u → wr.cell? p = some u := fun h => (HS.out.below.cell (World.block_lt_of_cell? w _ h)).trans h
            replace x0 := mv x0
            replace x1 := mv x1
            replace x2 := mv x2
            replace x3 := mv x3
            replace x4 := mv x4
            replace x5 := mv x5
            replace x6 := mv x6
            replace x7 := mv x7
            replace x8 := mv x8
            clear mv
            simp only [Int.toNat_natCast] at x0 x1 x2 x3 x4 x5 x6 x7 x8
            obtain ⟨m, hm⟩ : ∃ m, m = rd_T45 l0 i := ⟨_, rfl⟩
            rw [← hm] at x0 x1 x2 x3 x4 x5 x6 x7 x8
            have HG' := HG.out
            rw [← hm] at HG'
            have HG2 := Lib.hid HG'
            clear HG HG'
            have HMM := Lib.hid hm
            clear hm
            have HST := Lib.hid (show cat l0 (i + 1) = cstep l0 i m s by show (cat l0 i).bind _ = _; rw [HS.out.now, HMM.out]; rfl)
            cases hb1 : m.f1 with
            | false =>
              rw [hb1] at x1
              have HB1 := Lib.hid hb1
              clear hb1
              go_wp2_with fail
              go_roundw
              case rel => exact ⟨i + 1, ⟨s.calls, s.ends + 1⟩, by omega, by go_num, by go_num, by rw [HST.out]; unfold cstep; rw [if_pos HB1.out], HBG.out, (HS.out.row.imp_ (fun _ _ h => h)).below (below_alloc (Below.refl _ _) _), below_alloc HS.out.below _⟩
              case measure => simp [intOf]; omega
            | true =>
              rw [hb1] at x1
              have HB1 := Lib.hid hb1
              clear hb1
              go_wp2_with fail
              refine (fugueref23_op.calls m.f2.f0 m.f2.f1 m.f2.f2 (opB m.f2) _ (op_some m.f2)).mono ?_
              rintro e w1 ⟨rfl, hb⟩
              have hbx := blk_below (blk_new wr _) hb
              have HW1 := Lib.hid hb
              clear hb
              cases hop : opB m.f2 with
              | false =>
                have HOP := Lib.hid hop
                clear hop
                have y5 := blk_cell hbx (i := 5) rfl
                have y6 := blk_cell hbx (i := 6) rfl
                have y7 := blk_cell hbx (i := 7) rfl
                have y8 := blk_cell hbx (i := 8) rfl
                clear hbx
                go_wp2_with fail
                go_ret2
                exact ⟨below_step (below_alloc HS.out.below _) HW1.out, _, _, rfl, HS.out.refused hlt (by rw [← HMM.out]; unfold cstep; rw [if_neg (by rw [HB1.out]; simp), if_neg (by rw [HOP.out]; simp)])⟩
              | true =>
                have HOP := Lib.hid hop
                clear hop
                have y5 := blk_cell hbx (i := 5) rfl
                have y6 := blk_cell hbx (i := 6) rfl
                have y7 := blk_cell hbx (i := 7) rfl
                have y8 := blk_cell hbx (i := 8) rfl
                have HBX := Lib.hid hbx
                clear hbx
                go_wp2_with fail
                refine (fugueref23_zero.calls m.f3.f0 m.f3.f1 A7 c7 m.f3.f2 A8 c8 m.f3.f3 (zeroR m.f3) _ (Kd.C_below HG2.out.2.1 (below_step (below_alloc HS.out.below _) HW1.out)) HG2.out.1 (Kd.C_below HG2.out.2.2.2 (below_step (below_alloc HS.out.below _) HW1.out)) HG2.out.2.2.1 (zero_some m.f3)).mono ?_
                rintro e w2 ⟨rfl, hb⟩
                have hbx2 := blk_below HBX.out hb
                have hB2 := below_step (below_step (below_alloc HS.out.below _) HW1.out) hb
                have HW2 := Lib.hid (And.intro hb (And.intro hbx2 hB2))
                clear hb hbx2 hB2
                clear y5 y6 y7 y8
                cases hz : zeroR m.f3 with
                | false =>
                  go_wp2_with fail
                  go_ret2
                  exact ⟨HW2.out.2.2, _, _, rfl, HS.out.refused hlt (by rw [← HMM.out]; unfold cstep; rw [if_neg (by rw [HB1.out]; simp), if_neg (by rw [hz]; simp)])⟩
                | true =>
                  have HZ := Lib.hid hz
                  clear hz
                  have y2 := blk_cell HW2.out.2.1 (i := 2) rfl
                  have y3 := blk_cell HW2.out.2.1 (i := 3) rfl
                  have y4 := blk_cell HW2.out.2.1 (i := 4) rfl
                  go_wp2_with fail
                  obtain ⟨wO, hwO⟩ : ∃ wO, wO = wr := ⟨_, rfl⟩
                  subst hwO
                  obtain ⟨E, hE⟩ : ∃ E, E = endAt l0 m (l0.length - (i + 1)) (i + 1) := ⟨_, rfl⟩
                  clear x0 x1 x2 x3 x4 x5 x6 x7 x8 y2 y3 y4
                  go_loopw [11] (fun s11 wt => ∃ (k : Nat), i + 1 ≤ k ∧ k ≤ l0.length ∧ s11 = .int .i64 k ∧ Below w2.heap.size w2 wt ∧ CAt w wt w2.heap.size l0 i m E k) (fun s11 _ => l0.length - (intOf s11).toNat)
                  case atStart => exact ⟨i + 1, Nat.le_refl _, hlt, by simp, below_alloc (Below.refl _ _) _, -1, z43, none, 0, none, 0, new_blk _, ⟨Nat.le_refl _, Kd.C_nil _ _, Nat.le_refl _, Kd.C_nil _ _⟩, .inl ⟨rfl, rfl, hE⟩⟩
                  case round =>
                    obtain ⟨k, hk0, hk, rfl, hbl, tt, r, B7, d7, B8, d8, hcb, hlens, hto⟩ := hrel
                    have HBL := Lib.hid hbl
                    have HLE := Lib.hid hlens
                    have HTO := Lib.hid hto
                    have HE := Lib.hid hE
                    clear hE
                    have hmb := blk_below HW2.out.2.1 hbl
                    have y0 := blk_cell hmb (i := 0) rfl
                    have y2 := blk_cell hmb (i := 2) rfl
                    have y3 := blk_cell hmb (i := 3) rfl
                    have y4 := blk_cell hmb (i := 4) rfl
                    have z1 := blk_cell hcb (i := 1) rfl
                    have HCB := Lib.hid (And.intro hcb hmb)
                    clear hbl hlens hto hcb hmb
                    by_cases hkl : k < l0.length
                    · have hkD : decide ((k : Int) < (l0.length : Int)) = true := by simp; omega
                      rcases HTO.out with ⟨rfl, rfl, hEE⟩ | ⟨p, rfl, hpl, rfl, hEE⟩
                      · have HEE := Lib.hid hEE
                        clear hEE
                        obtain ⟨ad', A7', c7', A8', c8', hadd, x0, x1, x2, x3, x4, x5, x6, x7, x8, h7, g7, h8, g8⟩ := at_T45 HR.out k (by omega) (by omega)
                        cases hadd
                        have HG3 := Lib.hid (And.intro h7 (And.intro g7 (And.intro h8 g8)))
                        clear h7 g7 h8 g8
                        have mv : ∀ {p : Addr} {u : Value}, w.cell? p = some u → wr.cell? p = some u := fun h => (HBL.out.cell (Nat.lt_of_lt_of_le (World.block_lt_of_cell? w _ h) (below_size HW2.out.2.2))).trans ((HW2.out.2.2.cell (World.block_lt_of_cell? w _ h)).trans h)
                        replace x0 := mv x0
                        replace x1 := mv x1
                        replace x2 := mv x2
                        replace x3 := mv x3
                        replace x4 := mv x4
                        replace x5 := mv x5
                        replace x6 := mv x6
                        replace x7 := mv x7
                        replace x8 := mv x8
                        clear mv
                        simp only [Int.toNat_natCast] at x0 x1 x2 x3 x4 x5 x6 x7 x8
                        obtain ⟨x, hx⟩ : ∃ x, x = rd_T45 l0 k := ⟨_, rfl⟩
                        rw [← hx] at x0 x1 x2 x3 x4 x5 x6 x7 x8
                        have HG' := HG3.out
                        rw [← hx] at HG'
                        have HG4 := Lib.hid HG'
                        clear HG3 HG'
                        have HX := Lib.hid hx
                        clear hx
                        by_cases hcl2 : x.f0 = m.f0
                        · have hclD : (x.f0 == m.f0) = true := beq_iff_eq.2 hcl2
                          have HCL := Lib.hid hcl2
                          clear hcl2
                          have HBB0 := Lib.hid (HW2.out.2.2.trans (HBL.out.mono (below_size HW2.out.2.2)))
                          go_wp2_with fail
                          go_quiet (fail)
                          go_wp2_with fail
                          refine nameW ?_
                          intro V hV
                          have hVb : Below wr.heap.size wr V := by rw [hV]; exact pw_below_drewN (Below.refl _ _) _
                          have HBB := Lib.hid (HBB0.out.trans (hVb.mono (below_size HBB0.out)))
                          have mv : ∀ {p : Addr} {u : Value}, wr.cell? p = some u → V.cell? p = some u := fun h => (hVb.cell (World.block_lt_of_cell? wr _ h)).trans h
                          have HVB := Lib.hid (And.intro hV hVb)
                          replace x1 := mv x1
                          replace x2 := mv x2
                          replace x3 := mv x3
                          replace x4 := mv x4
                          replace x5 := mv x5
                          replace x6 := mv x6
                          replace x7 := mv x7
                          replace x8 := mv x8
                          replace y2 := mv y2
                          replace y3 := mv y3
                          replace y4 := mv y4
                          clear mv hV hVb x0 y0 z1 hclD
                          cases hxb : x.f1 with
                          | true =>
                            rw [hxb] at x1
                            have HXB := Lib.hid hxb
                            clear hxb
                            go_quiet (fail)
                            go_wp2_with fail
                            go_ret2
                            exact ⟨pw_below_drewN HBB.out _, _, _, rfl, HS.out.refused hlt (by rw [← HMM.out]; unfold cstep; rw [if_neg (by rw [HB1.out]; simp), if_pos ⟨HOP.out, HZ.out⟩, ← HE.out, HEE.out, endAt_here hkl (by rw [← HX.out]; exact HCL.out), if_neg (by rw [← HX.out]; rw [HXB.out]; simp)]; rfl)⟩
                          | false =>
                            rw [hxb] at x1
                            have HXB := Lib.hid hxb
                            clear hxb
                            have hqq := eqA40
                            cases hq : (x.f2.f0 == m.f2.f0 && (x.f2.f1 == m.f2.f1 && (x.f2.f2.toList == m.f2.f2.toList))) with
                            | false =>
                              go_quiet (fail)
                              go_wp2_with fail
                              go_ret2
                              exact ⟨pw_below_drewN HBB.out _, _, _, rfl, HS.out.refused hlt (by rw [← HMM.out]; unfold cstep; rw [if_neg (by rw [HB1.out]; simp), if_pos ⟨HOP.out, HZ.out⟩, ← HE.out, HEE.out, endAt_here hkl (by rw [← HX.out]; exact HCL.out), if_neg (by rw [← HX.out]; rintro ⟨_, h1, _⟩; rw [← opEq_iff, hq] at h1; cases h1)]; rfl)⟩
                            | true =>
                              refine wp_region_still_tail 23 (by kernel_rfl) (by kernel_rfl) ?_
                              simp only [List.take_succ_cons, List.take_zero, List.drop_succ_cons, List.drop_zero]
                              repeat still_step
                              refine wpStill_nil ?_
                              go_wp2_with fail
                              have hk2 : x.f3.f2.length ≤ 9223372036854775807 := (HG4.out.2.1).2.1
                              have HBV := Lib.hid (show Below w.heap.size w V.drew from below_drew1 HBB.out)
                              refine (fugueref23_reply.calls (x.f3.f2.length + 2) m.f2.f0 m.f2.f1 m.f2.f2 x.f3.f0 x.f3.f1 A7' c7' x.f3.f2 A8' c8' x.f3.f3 (replyB m.f2 x.f3) _ (Kd.C_below HG4.out.2.1 HBV.out) HG4.out.1 (Kd.C_below HG4.out.2.2.2 HBV.out) HG4.out.2.2.1 (reply_some _ _ hk2)).mono ?_
                              clear hk2 x1 x2 x3 x4 x5 x6 x7 x8 y2 y3 y4 hqq
                              rintro e w3 ⟨rfl, hb⟩
                              have HB3 := Lib.hid (below_step HBV.out hb)
                              cases he : replyB m.f2 x.f3 with
                              | false =>
                                clear hb
                                go_wp2_with fail
                                go_ret2
                                exact ⟨HB3.out, _, _, rfl, HS.out.refused hlt (by rw [← HMM.out]; unfold cstep; rw [if_neg (by rw [HB1.out]; simp), if_pos ⟨HOP.out, HZ.out⟩, ← HE.out, HEE.out, endAt_here hkl (by rw [← HX.out]; exact HCL.out), if_neg (by rw [← HX.out, he]; simp)]; rfl)⟩
                              | true =>
                                have HQ := Lib.hid (And.intro hq he)
                                clear hq he
                                have hcb3 := blk_below (w := V.drew) (blk_drew (blk_below HCB.out.1 HVB.out.2)) hb
                                have hat : ∀ {p : Addr} {u : Value}, w.cell? p = some u → w3.cell? p = some u := fun h => (HB3.out.cell (World.block_lt_of_cell? w _ h)).trans h
                                obtain ⟨ad', A7', c7', A8', c8', hadd, _, _, _, _, _, x5, x6, x7, x8, h7, g7, h8, g8⟩ := at_T45 HR.out k (by omega) (by omega)
                                cases hadd
                                rw [← HX.out] at x5 x6 x7 x8 h7 g7 h8 g8
                                simp only [Int.toNat_natCast] at x5 x6 x7 x8
                                replace x5 := hat x5
                                replace x6 := hat x6
                                replace x7 := hat x7
                                replace x8 := hat x8
                                clear hat
                                have HG5 := Lib.hid (And.intro h7 (And.intro g7 (And.intro h8 g8)))
                                clear h7 g7 h8 g8
                                have q1 := blk_cell hcb3 (i := 1) rfl
                                have q5 := blk_cell hcb3 (i := 5) rfl
                                have q6 := blk_cell hcb3 (i := 6) rfl
                                have q7 := blk_cell hcb3 (i := 7) rfl
                                have q8 := blk_cell hcb3 (i := 8) rfl
                                have fz : ∀ i, w3.frozen? ⟨w2.heap.size, i, none⟩ = false := fun i => blk_frozen hcb3 i
                                have HCB3 := Lib.hid hcb3
                                have HB4 := Lib.hid hb
                                clear hcb3 hb
                                go_wp2_with fail
                                go_roundw
                                case rel =>
                                  refine ⟨k + 1, by omega, by omega, by go_num, ?_, ?_⟩
                                  · have hb1 : Below w2.heap.size w2 V.drew := below_drew1 (HBL.out.trans (HVB.out.2.mono (below_size HBL.out)))
                                    exact below_set (below_set (below_set (below_set (below_set (hb1.trans (HB4.out.mono (below_size hb1))) (Nat.le_refl _) _ _) (Nat.le_refl _) _ _) (Nat.le_refl _) _ _) (Nat.le_refl _) _ _) (Nat.le_refl _) _ _
                                  · refine ⟨(k : Nat), (rd_T45 l0 (k : Nat)).f3, A7', c7', A8', c8', ?_, ?_, .inr ⟨k, rfl, hkl, rfl, ?_⟩⟩
                                    · rw [← HX.out]
                                      exact blk_set (blk_set (blk_set (blk_set (blk_set HCB3.out 1 _) 5 _) 6 _) 7 _) 8 _
                                    · rw [← HX.out]
                                      exact HG5.out
                                    · rw [HEE.out, endAt_here hkl (by rw [← HX.out]; exact HCL.out), if_pos]
                                      rw [← HX.out]
                                      exact ⟨HXB.out, opEq_iff.1 HQ.out.1, HQ.out.2⟩
                                case measure => simp [intOf]; omega
                        · have hclD : (x.f0 == m.f0) = false := beq_eq_false_iff_ne.mpr hcl2
                          have HCL := Lib.hid hcl2
                          clear hcl2
                          go_wp2_with fail
                          go_quiet (fail)
                          go_wp2_with fail
                          go_roundw
                          case rel => exact ⟨k + 1, by omega, by omega, by go_num, pw_below_drewN HBL.out _, _, _, B7, d7, B8, d8, (by exact HCB.out.1), HLE.out, .inl ⟨rfl, rfl, by rw [HEE.out]; exact endAt_next hkl (by rw [← HX.out]; exact HCL.out)⟩⟩
                          case measure => simp [intOf]; omega
                      · clear y0 y2 y3 y4
                        have z0 := blk_cell HCB.out.1 (i := 0) rfl
                        have z2 := blk_cell HCB.out.1 (i := 2) rfl
                        have z3 := blk_cell HCB.out.1 (i := 3) rfl
                        have z4 := blk_cell HCB.out.1 (i := 4) rfl
                        have z5 := blk_cell HCB.out.1 (i := 5) rfl
                        have z6 := blk_cell HCB.out.1 (i := 6) rfl
                        have z7 := blk_cell HCB.out.1 (i := 7) rfl
                        have z8 := blk_cell HCB.out.1 (i := 8) rfl
                        have HEE := Lib.hid (And.intro hEE hpl)
                        clear hEE hpl
                        have HO : Hid (OwnRow (k70.K w) 70 9 wr w.heap.size (.slice A6 s.calls.length c6) s.calls) := Lib.hid ((((HS.out.row.below (below_alloc (Below.refl _ _) _)).below HW1.out).below HW2.out.1).below HBL.out)
                        have HBB := Lib.hid (HW2.out.2.2.trans (HBL.out.mono (below_size HW2.out.2.2)))
                        go_wp2_with (refine OwnRow.append (w0 := w) w.heap.size rfl (.tmp 114) (.tmp 116) 30 70 _ 9 120 rfl Try.underlying30 info_call23 rfl (by decide) (by decide) _ s.calls ⟨(i : Int), (p : Nat), m.f2, (rd_T45 l0 (p : Nat)).f3⟩ _ rfl rfl (k70_mk w ⟨(i : Int), (p : Nat), m.f2, (rd_T45 l0 (p : Nat)).f3⟩ HLE.out.1 HLE.out.2.1 HLE.out.2.2.1 HLE.out.2.2.2) rfl (by intro u hu; simp at hu; rcases hu with rfl | rfl | rfl | rfl | rfl | rfl | rfl | rfl | rfl <;> rfl) HO.out HBB.out (below_size HBB.out) (by omega) ?_; intro v1 w3 hO3 hB3 hg3 hat3; have HO3 := Lib.hid (And.intro hO3 (And.intro hB3 hg3)); clear hO3 hB3 hg3 hat3)
                        go_roundw
                        case rel => exact ⟨i + 1, ⟨s.calls ++ [⟨(i : Int), (p : Nat), m.f2, (rd_T45 l0 (p : Nat)).f3⟩], s.ends⟩, by omega, by go_num, by go_num, by rw [HST.out]; unfold cstep; rw [if_neg (by rw [HB1.out]; simp), if_pos ⟨HOP.out, HZ.out⟩, ← HE.out, HEE.out.1]; rfl, HBG.out, HO3.out.1, HO3.out.2.1⟩
                        case measure => simp [intOf]; omega
                    · obtain rfl : k = l0.length := by omega
                      rcases HTO.out with ⟨rfl, rfl, hEE⟩ | ⟨p, rfl, hpl, rfl, hEE⟩
                      · have HEE := Lib.hid (hEE.trans endAt_end)
                        clear hEE
                        go_wp2_with fail
                        go_ret2
                        exact ⟨HW2.out.2.2.trans (HBL.out.mono (below_size HW2.out.2.2)), _, .inl ⟨rfl, HS.out.refused hlt (by rw [← HMM.out]; unfold cstep; rw [if_neg (by rw [HB1.out]; simp), if_pos ⟨HOP.out, HZ.out⟩, ← HE.out, HEE.out]; rfl)⟩⟩
                      · clear y0 y2 y3 y4
                        have z0 := blk_cell HCB.out.1 (i := 0) rfl
                        have z2 := blk_cell HCB.out.1 (i := 2) rfl
                        have z3 := blk_cell HCB.out.1 (i := 3) rfl
                        have z4 := blk_cell HCB.out.1 (i := 4) rfl
                        have z5 := blk_cell HCB.out.1 (i := 5) rfl
                        have z6 := blk_cell HCB.out.1 (i := 6) rfl
                        have z7 := blk_cell HCB.out.1 (i := 7) rfl
                        have z8 := blk_cell HCB.out.1 (i := 8) rfl
                        have HEE := Lib.hid (And.intro hEE hpl)
                        clear hEE hpl
                        have HO : Hid (OwnRow (k70.K w) 70 9 wr w.heap.size (.slice A6 s.calls.length c6) s.calls) := Lib.hid ((((HS.out.row.below (below_alloc (Below.refl _ _) _)).below HW1.out).below HW2.out.1).below HBL.out)
                        have HBB := Lib.hid (HW2.out.2.2.trans (HBL.out.mono (below_size HW2.out.2.2)))
                        go_wp2_with (refine OwnRow.append (w0 := w) w.heap.size rfl (.tmp 114) (.tmp 116) 30 70 _ 9 120 rfl Try.underlying30 info_call23 rfl (by decide) (by decide) _ s.calls ⟨(i : Int), (p : Nat), m.f2, (rd_T45 l0 (p : Nat)).f3⟩ _ rfl rfl (k70_mk w ⟨(i : Int), (p : Nat), m.f2, (rd_T45 l0 (p : Nat)).f3⟩ HLE.out.1 HLE.out.2.1 HLE.out.2.2.1 HLE.out.2.2.2) rfl (by intro u hu; simp at hu; rcases hu with rfl | rfl | rfl | rfl | rfl | rfl | rfl | rfl | rfl <;> rfl) HO.out HBB.out (below_size HBB.out) (by omega) ?_; intro v1 w3 hO3 hB3 hg3 hat3; have HO3 := Lib.hid (And.intro hO3 (And.intro hB3 hg3)); clear hO3 hB3 hg3 hat3)
                        go_roundw
                        case rel => exact ⟨i + 1, ⟨s.calls ++ [⟨(i : Int), (p : Nat), m.f2, (rd_T45 l0 (p : Nat)).f3⟩], s.ends⟩, by omega, by go_num, by go_num, by rw [HST.out]; unfold cstep; rw [if_neg (by rw [HB1.out]; simp), if_pos ⟨HOP.out, HZ.out⟩, ← HE.out, HEE.out.1]; rfl, HBG.out, HO3.out.1, HO3.out.2.1⟩
                        case measure => simp [intOf]; omega
          · obtain rfl : i = l0.length := by omega
            have heD : decide ((s.ends : Int) = (s.calls.length : Int)) = decide (s.ends = s.calls.length) := decide_eq_decide.2 (by omega)
            go_wp2_with fail
            go_ret2
            refine ⟨HS.out.below, _, _, rfl, HS.out.done _ ?_⟩
            simp
            try omega
/-- the moment q ends rightly the call that m begins -/
def EndsM (l0 : List S45) (m : S45) (q : Nat) : Prop := (rd_T45 l0 (q : Nat)).f1 = false ∧ opEq (rd_T45 l0 (q : Nat)).f2 m.f2 ∧ replyB m.f2 (rd_T45 l0 (q : Nat)).f3 = true
theorem endAt_iff {l0 : List S45} {m : S45} {q : Nat} : ∀ (d k : Nat), k + d = l0.length →
    (endAt l0 m (l0.length - k) k = some q ↔ k ≤ q ∧ q < l0.length ∧ (rd_T45 l0 (q : Nat)).f0 = m.f0 ∧ EndsM l0 m q ∧ ∀ j, k ≤ j → j < q → (rd_T45 l0 (j : Nat)).f0 ≠ m.f0) := by
  intro d
  induction d with
  | zero =>
    intro k hk
    obtain rfl : k = l0.length := by omega
    rw [endAt_end]
    exact ⟨(fun h => by cases h), fun h => by omega⟩
  | succ d ih =>
    intro k hk
    by_cases hc : (rd_T45 l0 (k : Nat)).f0 = m.f0
    · rw [endAt_here (by omega) hc]
      constructor
      · intro h
        split at h
        · rename_i hh
          cases h
          exact ⟨Nat.le_refl _, by omega, hc, hh, fun j a b => by omega⟩
        · cases h
      · rintro ⟨h1, h2, h3, h4, h5⟩
        obtain rfl : k = q := by
          rcases Nat.eq_or_lt_of_le h1 with e | e
          · exact e
          · exact absurd hc (h5 k (Nat.le_refl _) e)
        exact if_pos h4
    · rw [endAt_next (by omega) hc, ih (k + 1) (by omega)]
      constructor
      · rintro ⟨h1, h2, h3, h4, h5⟩
        refine ⟨by omega, h2, h3, h4, fun j a b => ?_⟩
        rcases Nat.eq_or_lt_of_le a with e | e
        · subst e; exact hc
        · exact h5 j e b
      · rintro ⟨h1, h2, h3, h4, h5⟩
        refine ⟨?_, h2, h3, h4, fun j a b => h5 j (by omega) b⟩
        rcases Nat.eq_or_lt_of_le h1 with e | e
        · subst e; exact absurd h3 hc
        · exact e
/-- what a call of the document is -/
def CallOf (l0 : List S45) (i : Nat) (c : S70) : Prop :=
  ∃ p q : Nat, p < i ∧ (rd_T45 l0 (p : Nat)).f1 = true ∧ opB (rd_T45 l0 (p : Nat)).f2 = true ∧ zeroR (rd_T45 l0 (p : Nat)).f3 = true ∧ endAt l0 (rd_T45 l0 (p : Nat)) (l0.length - (p + 1)) (p + 1) = some q ∧ c = ⟨(p : Int), (q : Int), (rd_T45 l0 (p : Nat)).f2, (rd_T45 l0 (q : Nat)).f3⟩
def mstep (i : Nat) (c : S70) (mk : Mk) : Option Mk :=
  if c.f2.f0 = 1 ∧ c.f3.f0 = true then (if mk c.f2.f1 = none then some (upd1 mk c.f2.f1 (some i)) else none) else some mk
def mkAt (cs : List S70) : Nat → Option Mk
  | 0 => some fun _ => none
  | i + 1 => (mkAt cs i).bind (mstep i (rd_T70 cs i))
def allFit (cs : List S70) (mk : Mk) (n : Nat) : Prop := ∀ i, i < n → fitsB cs mk (rd_T70 cs i) = true
instance (cs : List S70) (mk : Mk) (n : Nat) : Decidable (allFit cs mk n) := by unfold allFit; infer_instance
def madeB (cs : List S70) : Option Mk := (mkAt cs cs.length).bind fun mk => if allFit cs mk cs.length then some mk else none
theorem mkAt_succ (cs : List S70) (i : Nat) : mkAt cs (i + 1) = (mkAt cs i).bind (mstep i (rd_T70 cs i)) := rfl
theorem mkAt_none {cs : List S70} {i : Nat} (h : mkAt cs i = none) : ∀ j, i ≤ j → mkAt cs j = none := by
  intro j hij
  induction hij with
  | refl => exact h
  | @step j hij ih => rw [mkAt_succ, ih]; rfl
theorem mstep_lt {i : Nat} {c : S70} {mk mk' : Mk} (h : mstep i c mk = some mk') (hm : ∀ k n, mk k = some n → n < i) : ∀ k n, mk' k = some n → n < i + 1 := by
  unfold mstep at h
  split at h
  · split at h
    · obtain rfl := Option.some.inj h
      intro k n hk
      simp only [upd1] at hk
      split at hk
      · cases hk; omega
      · have := hm k n hk; omega
    · cases h
  · obtain rfl := Option.some.inj h
    intro k n hk
    have := hm k n hk
    omega
theorem mkAt_lt {cs : List S70} : ∀ (i : Nat) (mk : Mk), mkAt cs i = some mk → ∀ k n, mk k = some n → n < i := by
  intro i
  induction i with
  | zero => intro mk h k n hk; cases h; cases hk
  | succ i ih =>
    intro mk h
    rw [mkAt_succ] at h
    obtain ⟨m1, h1, h2⟩ := Option.bind_eq_some_iff.1 h
    exact mstep_lt h2 (ih m1 h1)
theorem mkV_upd (mk : Mk) (k : Int) (i : Nat) : mkV (upd1 mk k (some i)) = fun j => if j = k then some (.int .i64 (i : Nat)) else mkV mk j := by
  funext j
  unfold mkV upd1
  split <;> rfl
/-- while the makers are looked for -/
structure MInv (w wr : World) (p : Nat) (cs : List S70) (A : Option Addr) (c : Nat) (mk : Mk) : Prop where
  blk : wr.heap[p]? = some (.cells #[.slice A cs.length c, .map (some w.heap.size)] 58 (0, 0))
  map : IMap wr w.heap.size (mkV mk)
  only : Only w wr fun b => b = p
theorem MInv.only' {w wr w1 : World} {p : Nat} {cs : List S70} {A : Option Addr} {c : Nat} {mk : Mk} (h : MInv w wr p cs A c mk) (hb : Below wr.heap.size wr w1) : MInv w w1 p cs A c mk :=
  ⟨blk_below h.blk hb, h.map.of_block (hb.block _ h.map.lt), h.only.trans (Only.of_below (S := fun _ => False) hb fun b h1 h2 => by omega) fun _ q => q.elim⟩
theorem MInv.base {w0 w wr : World} {p : Nat} {cs : List S70} {A : Option Addr} {c : Nat} {mk : Mk} (h : MInv w wr p cs A c mk) (hB : Below w0.heap.size w0 w) (hp : w0.heap.size ≤ p) : Below w0.heap.size w0 wr :=
  hB.trans (h.only.below (below_size hB) fun b e => by omega)
theorem MInv.book {w0 w wr : World} {p : Nat} {cs : List S70} {A : Option Addr} {c : Nat} {mk : Mk} (h : MInv w wr p cs A c mk) (hcap : cs.length ≤ c) (hlen : cs.length ≤ 2147483647) (hC : Kd.C k70 w0 A cs.length cs) (hB : Below w0.heap.size w0 w) (hp : w0.heap.size ≤ p) (hn : ∀ k n, mk k = some n → n < cs.length) : BookAt wr p cs mk A c w.heap.size :=
  ⟨h.blk, hcap, hlen, Kd.C_below hC (h.base hB hp), h.map, hn⟩
theorem MInv.alloc {w wr : World} {p : Nat} {cs : List S70} {A : Option Addr} {c : Nat} {mk : Mk} (h : MInv w wr p cs A c mk) (o : Obj) : MInv w (wr.alloc o) p cs A c mk := h.only' (below_alloc (Below.refl _ _) o)
theorem MInv.put {w wr w1 : World} {p : Nat} {cs : List S70} {A : Option Addr} {c : Nat} {mk : Mk} {k : Int} {i : Nat} (h : MInv w wr p cs A c mk) (hm : IMap w1 w.heap.size (fun j => if j = k then some (.int .i64 (i : Nat)) else mkV mk j)) (ht : Turned wr.drew w1 w.heap.size) : MInv w w1 p cs A c (upd1 mk k (some i)) := by
  have hne : p ≠ w.heap.size := fun e => by
    obtain ⟨es, clock, q, _⟩ := h.map
    rw [← e, h.blk] at q
    cases q
  refine ⟨(ht.2.2.2.2 p hne).trans h.blk, by rw [mkV_upd]; exact hm, (h.only.drew.trans (ht.only (S := fun b => b = w.heap.size) rfl) fun b q => .inr (Nat.le_of_eq q.symm))⟩
/-- what made answers, and leaves -/
def MadeEnd (w w' : World) (p : Nat) (cs : List S70) (A : Option Addr) (c : Nat) (e : Ending) : Prop :=
  match madeB cs with
  | none => e = .returned (.bool false)
  | some mk => e = .returned (.bool true) ∧ BookAt w' p cs mk A c w.heap.size
theorem MadeEnd.no {w w' : World} {p : Nat} {cs : List S70} {A : Option Addr} {c : Nat} {e : Ending} (h : madeB cs = none) (he : e = .returned (.bool false)) : MadeEnd w w' p cs A c e := by unfold MadeEnd; rw [h]; exact he
theorem MadeEnd.yes {w w' : World} {p : Nat} {cs : List S70} {A : Option Addr} {c : Nat} {e : Ending} {mk : Mk} (h : madeB cs = some mk) (he : e = .returned (.bool true)) (hb : BookAt w' p cs mk A c w.heap.size) : MadeEnd w w' p cs A c e := by unfold MadeEnd; rw [h]; exact ⟨he, hb⟩
set_option maxRecDepth 100000 in
set_option maxHeartbeats 2000000 in
theorem made_walk (w0 w : World) (p : Nat) (cs : List S70) (A : Option Addr) (c : Nat) (hcap : cs.length ≤ c) (hlen : cs.length ≤ 2147483647) (hC : Kd.C k70 w0 A cs.length cs) (hB : Below w0.heap.size w0 w) (hp : w0.heap.size ≤ p)
    (hb : w.heap[p]? = some (.cells #[.slice A cs.length c, .map none] 58 (0, 0)))
    (hE : ∀ i, i < cs.length → (rd_T70 cs i).f2.f0 ≠ 1 → (rd_T70 cs i).f2.f0 ≠ 2 → (rd_T70 cs i).f3.f2.length = (rd_T70 cs i).f3.f3.length) (hK : ∀ i, i < cs.length → (rd_T70 cs i).f3.f2.length ≤ 9223372036854775807) :
    Calls Try.prog 27 #[.pointer (some ⟨p, 0, none⟩)] w fun e w' => Only w w' (fun b => b = p) ∧ MadeEnd w w' p cs A c e := by
  have HC := Lib.hid (And.intro hcap (And.intro hC (And.intro hB (And.intro hp (And.intro hE hK)))))
  have c0 := blk_cell hb (i := 0) rfl
  have c1 := blk_cell hb (i := 1) rfl
  have fz := blk_frozen hb 1
  have p0 := blk_lt hb
  have HBK := Lib.hid hb
  clear hcap hC hB hp hb hE hK
  have hmm := @run_makeMap Try.prog
  have hu := Try.underlying65
  have hu2 := Try.underlying58
  have hu3 := Try.underlying40
  have hu4 := Try.underlying43
  go_enter Try.func27, Try.ntmps27
  go_wp2_with fail
  go_loopw [18] (fun s18 wr => ∃ (i : Nat) (mk : Mk), i ≤ cs.length ∧ s18 = .int .i64 i ∧ mkAt cs i = some mk ∧ MInv w wr p cs A c mk) (fun s18 _ => cs.length - (intOf s18).toNat)
  case atStart =>
    refine ⟨0, _, Nat.zero_le _, rfl, rfl, ?_, ?_, ?_⟩
    · exact blk_alloc (blk_set HBK.out 1 _) _
    · have := IMap.made (w.setCell ⟨p, 1, none⟩ (.map (some w.heap.size)))
      rw [show (w.setCell ⟨p, 1, none⟩ (.map (some w.heap.size))).heap.size = w.heap.size by simp [World.setCell]] at this
      exact this
    · exact ((Only.refl w fun b => b = p).setCell (p := ⟨p, 1, none⟩) (.inl rfl) _).alloc _
  case round =>
    obtain ⟨i, mk, hi, rfl, hat, hS⟩ := hrel
    have HS := Lib.hid (And.intro hat hS)
    clear hat hS
    have r0 := blk_cell HS.out.2.blk (i := 0) rfl
    have r1 := blk_cell HS.out.2.blk (i := 1) rfl
    have rp := blk_lt HS.out.2.blk
    clear c0 c1 fz p0
    by_cases hlt : i < cs.length
    · have hlD : decide ((i : Int) < (cs.length : Int)) = true := by simp; omega
      obtain ⟨ad, E7, e7, E8, e8, hA, q0, q1, q2, q3, q4, q5, q6, q7, q8, l7, g7, l8, g8⟩ := at_T70 HC.out.2.1 i (by omega) (by omega)
      subst hA
      have HBB := Lib.hid (HS.out.2.base HC.out.2.2.1 HC.out.2.2.2.1)
      have HG := Lib.hid (And.intro l7 (And.intro g7 (And.intro l8 g8)))
      clear l7 g7 l8 g8
      have mv : ∀ {p : Addr} {u : Value}, w0.cell? p = some u → wr.cell? p = some u := fun h => (HBB.out.cell (World.block_lt_of_cell? w0 _ h)).trans h
      simp only [Int.toNat_natCast] at q0 q1 q2 q3 q4 q5 q6 q7 q8
      replace q0 := mv q0
      replace q1 := mv q1
      replace q2 := mv q2
      replace q3 := mv q3
      replace q4 := mv q4
      replace q5 := mv q5
      replace q6 := mv q6
      replace q7 := mv q7
      replace q8 := mv q8
      clear mv
      obtain ⟨d, hd⟩ : ∃ d, d = rd_T70 cs i := ⟨_, rfl⟩
      rw [← hd] at q0 q1 q2 q3 q4 q5 q6 q7 q8
      have HD := Lib.hid hd
      clear hd
      have HST := Lib.hid (mkAt_succ cs i)
      by_cases hk1 : d.f2.f0 = 1
      · rw [hk1] at q2
        have HK1 := Lib.hid hk1
        clear hk1
        cases hok : d.f3.f0 with
        | false =>
          rw [hok] at q5
          have HOK := Lib.hid hok
          clear hok
          go_wp2_with fail
          go_roundw
          case rel => exact ⟨i + 1, mk, by omega, by go_num, by rw [HST.out, HS.out.1]; show mstep i (rd_T70 cs i) mk = _; unfold mstep; rw [← HD.out, if_neg (fun q => by rw [HOK.out] at q; cases q.2)], HS.out.2.alloc _⟩
          case measure => simp [intOf]; omega
        | true =>
          rw [hok] at q5
          have HOK := Lib.hid hok
          clear hok
          cases hmk : mk d.f2.f1 with
          | some n =>
            have HM := Lib.hid hmk
            clear hmk
            go_wp2_with fail
            refine nameW ?_
            intro V hV
            have hI : MInv w V p cs (some ad) c mk := by rw [hV]; exact HS.out.2.alloc _
            have hbx : V.heap[wr.heap.size]? = some (.cells #[.int .i64 d.f0, .int .i64 d.f1, .int .i64 1, .int .i64 d.f2.f1, .string d.f2.f2, .bool true, .string d.f3.f1, .slice E7 d.f3.f2.length e7, .slice E8 d.f3.f3.length e8] 65 (0, 0)) := by rw [hV]; exact blk_new wr _
            have hl := fun n : Nat => IMap.run_lookup2 (w := V.drewN n) Try.underlying56 Try.underlying3 (hI.map.of_block rfl) (.int .i64 0) (by kernel_rfl) d.f2.f1
            simp only [mkV_some HM.out, Option.getD_some, Option.isSome_some] at hl
            have y3 := blk_cell hbx (i := 3) rfl
            have s1 := blk_cell hI.blk (i := 1) rfl
            have HV := Lib.hid (And.intro hV hI)
            clear hV hI hbx r0 r1 rp q0 q1 q2 q3 q4 q5 q6 q7 q8
            go_quiet (fail)
            go_wp2_with fail
            go_ret
            refine ⟨HV.out.2.only.drewN _, MadeEnd.no ?_ rfl⟩
            · unfold madeB
              rw [mkAt_none (i := i + 1) (by rw [HST.out, HS.out.1]; show mstep i (rd_T70 cs i) mk = _; unfold mstep; rw [← HD.out, if_pos ⟨HK1.out, HOK.out⟩, HM.out, if_neg (by simp)]) _ (by omega)]
              rfl
          | none =>
            have HM := Lib.hid hmk
            clear hmk
            go_wp2_with fail
            refine nameW ?_
            intro V hV
            have hI : MInv w V p cs (some ad) c mk := by rw [hV]; exact HS.out.2.alloc _
            have hbx : V.heap[wr.heap.size]? = some (.cells #[.int .i64 d.f0, .int .i64 d.f1, .int .i64 1, .int .i64 d.f2.f1, .string d.f2.f2, .bool true, .string d.f3.f1, .slice E7 d.f3.f2.length e7, .slice E8 d.f3.f3.length e8] 65 (0, 0)) := by rw [hV]; exact blk_new wr _
            have hl := fun n : Nat => IMap.run_lookup2 (w := V.drewN n) Try.underlying56 Try.underlying3 (hI.map.of_block rfl) (.int .i64 0) (by kernel_rfl) d.f2.f1
            simp only [mkV_none HM.out, Option.getD_none, Option.isSome_none] at hl
            have y3 := blk_cell hbx (i := 3) rfl
            have s1 := blk_cell hI.blk (i := 1) rfl
            have HV := Lib.hid (And.intro hV (And.intro hI hbx))
            clear hV hI hbx r0 r1 rp q0 q1 q2 q3 q4 q5 q6 q7 q8
            go_quiet (fail)
            clear hl y3 s1
            go_wp2_with fail
            refine nameW ?_
            intro V2 hV2
            have hI : MInv w V2 p cs (some ad) c mk := by rw [hV2]; exact HV.out.2.1.only' (pw_below_drewN (Below.refl _ _) _)
            have hbx : V2.heap[wr.heap.size]? = some (.cells #[.int .i64 d.f0, .int .i64 d.f1, .int .i64 1, .int .i64 d.f2.f1, .string d.f2.f2, .bool true, .string d.f3.f1, .slice E7 d.f3.f2.length e7, .slice E8 d.f3.f3.length e8] 65 (0, 0)) := by rw [hV2]; exact HV.out.2.2
            have y3 := blk_cell hbx (i := 3) rfl
            have s1 := blk_cell hI.blk (i := 1) rfl
            obtain ⟨V3, hrun, hm3, hturn, hdr⟩ := IMap.run_update (w := V2.drew) Try.underlying56 Try.underlying3 (hI.map.of_block (w1 := V2.drew) rfl) d.f2.f1 (.int .i64 (i : Nat))
            have H2 := Lib.hid (And.intro hI (And.intro hm3 hturn))
            clear hI hbx hm3 hturn hdr hV2
            refine wp_region_still_tail 8 (by kernel_rfl) (by kernel_rfl) ?_
            simp only [List.take_succ_cons, List.take_zero, List.drop_succ_cons, List.drop_zero]
            repeat still_step
            refine wpStill_nil ?_
            go_wp2_with fail
            go_roundw
            case rel => exact ⟨i + 1, _, by omega, by go_num, by rw [HST.out, HS.out.1]; show mstep i (rd_T70 cs i) mk = _; unfold mstep; rw [← HD.out, if_pos ⟨HK1.out, HOK.out⟩, if_pos HM.out], H2.out.1.put H2.out.2.1 H2.out.2.2⟩
            case measure => simp [intOf]; omega
      · obtain ⟨a1, a2, a3, _⟩ := ne_forms hk1
        have HK1 := Lib.hid hk1
        clear hk1
        go_wp2_with fail
        go_roundw
        case rel => exact ⟨i + 1, mk, by omega, by go_num, by rw [HST.out, HS.out.1]; show mstep i (rd_T70 cs i) mk = _; unfold mstep; rw [← HD.out, if_neg (fun q => HK1.out q.1)], HS.out.2.alloc _⟩
        case measure => simp [intOf]; omega
    · obtain rfl : i = cs.length := by omega
      go_wp2_with fail
      obtain ⟨wo, hwo⟩ : ∃ wo : World, wo = wr := ⟨_, rfl⟩
      go_loopw [58] (fun s58 w2 => ∃ j : Nat, j ≤ cs.length ∧ s58 = .int .i64 j ∧ allFit cs mk j ∧ MInv w w2 p cs A c mk) (fun s58 _ => cs.length - (intOf s58).toNat)
      case atStart => exact ⟨0, Nat.zero_le _, rfl, fun q hq => by omega, HS.out.2⟩
      case round =>
        obtain ⟨j, hj, rfl, hfit, hS2⟩ := hrel
        have HF := Lib.hid (And.intro hfit hS2)
        clear hfit hS2 hwo r0 r1 rp
        by_cases hlt2 : j < cs.length
        · have hlD : decide ((j : Int) < (cs.length : Int)) = true := by simp; omega
          obtain ⟨ad, E7, e7, E8, e8, hA, q0, q1, q2, q3, q4, q5, q6, q7, q8, l7, g7, l8, g8⟩ := at_T70 HC.out.2.1 j (by omega) (by omega)
          subst hA
          have HBB := Lib.hid (HF.out.2.base HC.out.2.2.1 HC.out.2.2.2.1)
          have HG := Lib.hid (And.intro l7 (And.intro g7 (And.intro l8 g8)))
          clear l7 g7 l8 g8
          have mv : ∀ {p : Addr} {u : Value}, w0.cell? p = some u → wr.cell? p = some u := fun h => (HBB.out.cell (World.block_lt_of_cell? w0 _ h)).trans h
          simp only [Int.toNat_natCast] at q0 q1 q2 q3 q4 q5 q6 q7 q8
          replace q0 := mv q0
          replace q1 := mv q1
          replace q2 := mv q2
          replace q3 := mv q3
          replace q4 := mv q4
          replace q5 := mv q5
          replace q6 := mv q6
          replace q7 := mv q7
          replace q8 := mv q8
          clear mv
          obtain ⟨d, hd⟩ : ∃ d, d = rd_T70 cs j := ⟨_, rfl⟩
          rw [← hd] at q0 q1 q2 q3 q4 q5 q6 q7 q8
          have HD := Lib.hid hd
          clear hd
          have HG2 : Hid (d.f3.f2.length ≤ e7 ∧ (Kd.int .i64).C w0 E7 d.f3.f2.length d.f3.f2 ∧ d.f3.f3.length ≤ e8 ∧ Kd.string.C w0 E8 d.f3.f3.length d.f3.f3) := Lib.hid (by rw [HD.out]; exact HG.out)
          clear HG
          go_wp2_with fail
          have hBn := (HBB.out.trans (Below.mono (below_alloc (Below.refl wr.heap.size wr) (.cells #[.int .i64 d.f0, .int .i64 d.f1, .int .i64 d.f2.f0, .int .i64 d.f2.f1, .string d.f2.f2, .bool d.f3.f0, .string d.f3.f1, .slice E7 d.f3.f2.length e7, .slice E8 d.f3.f3.length e8] 65)) (below_size HBB.out)))
          refine (fits_calls ((HF.out.2.alloc _).book HC.out.1 hlen HC.out.2.1 HC.out.2.2.1 HC.out.2.2.2.1 (mkAt_lt _ _ HS.out.1)) d E7 e7 E8 e8 HG2.out.1 (Kd.C_below HG2.out.2.1 hBn) HG2.out.2.2.1 (Kd.C_below HG2.out.2.2.2 hBn) (by rw [HD.out]; exact HC.out.2.2.2.2.1 j hlt2) (by rw [HD.out]; exact HC.out.2.2.2.2.2 j hlt2)).mono ?_
          rintro e w3 ⟨rfl, hb3⟩
          have HW3 := Lib.hid ((HF.out.2.alloc _).only' hb3)
          clear hb3 hBn
          cases hfb : fitsB cs mk d with
          | true =>
            have HFB := Lib.hid hfb
            clear hfb
            go_wp2_with fail
            go_roundw
            case rel => exact ⟨j + 1, by omega, by go_num, fun q hq => by
              rcases Nat.lt_or_ge q j with k | k
              · exact HF.out.1 q k
              · obtain rfl : q = j := by omega
                rw [← HD.out]; exact HFB.out, HW3.out⟩
            case measure => simp [intOf]; omega
          | false =>
            have HFB := Lib.hid hfb
            clear hfb
            go_wp2_with fail
            go_ret
            refine ⟨HW3.out.only, MadeEnd.no ?_ rfl⟩
            unfold madeB
            rw [HS.out.1]
            show (if allFit cs mk cs.length then some mk else none) = none
            rw [if_neg]
            intro q
            have := q j hlt2
            rw [← HD.out, HFB.out] at this
            cases this
        · obtain rfl : j = cs.length := by omega
          go_wp2_with fail
          go_ret
          refine ⟨HF.out.2.only, MadeEnd.yes ?_ rfl (HF.out.2.book HC.out.1 hlen HC.out.2.1 HC.out.2.2.1 HC.out.2.2.2.1 (mkAt_lt _ _ HS.out.1))⟩
          unfold madeB
          rw [HS.out.1]
          show (if allFit cs mk cs.length then some mk else none) = some mk
          rw [if_pos HF.out.1]
end Go.Proofs.Ytfahoomkpammiaa
namespace Go.Proofs.Ytfahoomkpammiaa
open Go.RowKit Go.MapKept Go.Shelf Go.Proofs.YtfahoomkpammiaaW.PrintWords Go.Proofs.YtfahoomkpammiaaW.PrintLast Go.Proofs.YtfahoomkpammiaaW.PrintMore Go.Proofs.Ytfahoomkpammiaa.PHistOrders
/-- the cells of a call -/
abbrev callCells (c : S70) (A7 : Option Addr) (c7 : Nat) (A8 : Option Addr) (c8 : Nat) : Array Value :=
  #[.int .i64 c.f0, .int .i64 c.f1, .int .i64 c.f2.f0, .int .i64 c.f2.f1, .string c.f2.f2, .bool c.f3.f0, .string c.f3.f1, .slice A7 c.f3.f2.length c7, .slice A8 c.f3.f3.length c8]
/-- what behind has laid: three blocks -/
structure Laid (w : World) (n0 : Nat) (p : Nat) (i : Int) (c : S70) (A7 : Option Addr) (c7 : Nat) (A8 : Option Addr) (c8 : Nat) : Prop where
  b : w.heap[n0]? = some (.cells #[.pointer (some ⟨p, 0, none⟩)] 55 (0, 0))
  i : w.heap[n0 + 1]? = some (.cells #[.int .i64 i] 3 (0, 0))
  c : w.heap[n0 + 2]? = some (.cells (callCells c A7 c7 A8 c8) 65 (0, 0))
theorem Laid.of {w w1 : World} {n0 p : Nat} {i : Int} {c : S70} {A7 : Option Addr} {c7 : Nat} {A8 : Option Addr} {c8 : Nat} (h : Laid w n0 p i c A7 c7 A8 c8) (hk : ∀ b, b = n0 ∨ b = n0 + 1 ∨ b = n0 + 2 → w1.heap[b]? = w.heap[b]?) : Laid w1 n0 p i c A7 c7 A8 c8 :=
  ⟨(hk _ (.inl rfl)).trans h.b, (hk _ (.inr (.inl rfl))).trans h.i, (hk _ (.inr (.inr rfl))).trans h.c⟩
set_option maxRecDepth 100000 in
set_option maxHeartbeats 1000000 in
theorem behind_calls {w0 w : World} {p : Nat} {cs : List S70} {mk : Mk} {A : Option Addr} {cc b : Nat} (h : BookAt w0 p cs mk A cc b) (h0 : Below w0.heap.size w0 w) (i : Nat) (hi : i < cs.length) :
    Calls Try.prog 28 #[.pointer (some ⟨p, 0, none⟩), .int .i64 i] w fun e w' =>
      e = .returned (.func (.func 46) #[] #[.pointer (some ⟨w.heap.size, 0, none⟩), .pointer (some ⟨w.heap.size + 1, 0, none⟩), .pointer (some ⟨w.heap.size + 2, 0, none⟩)]) ∧ Below w.heap.size w w' ∧ w'.heap.size = w.heap.size + 3 ∧
      ∃ A7 c7 A8 c8, (rd_T70 cs i).f3.f2.length ≤ c7 ∧ (Kd.int .i64).C w0 A7 (rd_T70 cs i).f3.f2.length (rd_T70 cs i).f3.f2 ∧ Laid w' w.heap.size p i (rd_T70 cs i) A7 c7 A8 c8 := by
  have c0 := blk_cell (h.below h0).blk (i := 0) rfl
  have p0 := blk_lt (h.below h0).blk
  obtain ⟨ad, E7, e7, E8, e8, hA, q0, q1, q2, q3, q4, q5, q6, q7, q8, l7, g7, l8, g8⟩ := at_T70 h.row i (by omega) (by omega)
  subst hA
  simp only [Int.toNat_natCast] at q0 q1 q2 q3 q4 q5 q6 q7 q8
  have mv0 : ∀ {p : Addr} {u : Value}, w0.cell? p = some u → w.cell? p = some u := fun h => (h0.cell (World.block_lt_of_cell? w0 _ h)).trans h
  replace q0 := mv0 q0
  replace q1 := mv0 q1
  replace q2 := mv0 q2
  replace q3 := mv0 q3
  replace q4 := mv0 q4
  replace q5 := mv0 q5
  replace q6 := mv0 q6
  replace q7 := mv0 q7
  replace q8 := mv0 q8
  clear mv0
  have pa := World.block_lt_of_cell? w _ q2
  dsimp only at pa
  have hcl : cs.length ≤ 2147483647 := h.len
  have hnD : decide ((i : Int) < (cs.length : Int)) = true := by simp; omega
  have H := Lib.hid (And.intro h (And.intro l7 g7))
  clear h l7 g7 l8 g8
  have hu := Try.underlying65
  have hu2 := Try.underlying58
  obtain ⟨d, hd⟩ : ∃ d, d = rd_T70 cs i := ⟨_, rfl⟩
  rw [← hd] at q0 q1 q2 q3 q4 q5 q6 q7 q8
  have HD := Lib.hid hd
  rw [← hd]
  clear hd
  go_enter Try.func28, Try.ntmps28
  go_wp2_with fail
  refine nameW ?_
  intro V hV
  have hbV : Below w.heap.size w V := by rw [hV]; exact below_alloc (below_alloc (Below.refl _ _) _) _
  have hsV : V.heap.size = w.heap.size + 2 := by rw [hV]; simp
  have v0 : V.heap[w.heap.size]? = some (.cells #[.pointer (some ⟨p, 0, none⟩)] 55 (0, 0)) := by rw [hV]; exact blk_alloc (blk_new w _) _
  have v1 : V.heap[w.heap.size + 1]? = some (.cells #[.int .i64 i] 3 (0, 0)) := by
    have := blk_new (w.alloc (.cells #[.pointer (some ⟨p, 0, none⟩)] 55)) (.cells #[.int .i64 i] 3)
    rw [hV]
    simpa using this
  have mv : ∀ {p : Addr} {u : Value}, w.cell? p = some u → V.cell? p = some u := fun h => (hbV.cell (World.block_lt_of_cell? w _ h)).trans h
  replace q0 := mv q0
  replace q1 := mv q1
  replace q2 := mv q2
  replace q3 := mv q3
  replace q4 := mv q4
  replace q5 := mv q5
  replace q6 := mv q6
  replace q7 := mv q7
  replace q8 := mv q8
  replace c0 := mv c0
  have s0 := blk_cell v0 (i := 0) rfl
  have s1 := blk_cell v1 (i := 0) rfl
  have n1 : p < V.heap.size := by omega
  have n2 : (ad.add (i * 9)).block < V.heap.size := by omega
  have n3 : w.heap.size < V.heap.size := by omega
  have n4 : w.heap.size + 1 < V.heap.size := by omega
  have HV := Lib.hid (And.intro hbV (And.intro hsV (And.intro v0 v1)))
  clear mv hV hbV hsV v0 v1 p0 pa
  go_region
  all_goals go_wp2_with fail
  all_goals go_ret
  all_goals exact ⟨by rw [← HV.out.2.1]; rfl, below_drew1 (below_alloc HV.out.1 _), by have := HV.out.2.1; simp; omega, E7, e7, E8, e8, by rw [HD.out]; exact H.out.2.1, by rw [HD.out]; exact H.out.2.2,
    ⟨blk_drew (blk_alloc HV.out.2.2.1 _), blk_drew (blk_alloc HV.out.2.2.2 _), by rw [← HV.out.2.1]; exact blk_drew (blk_new V _)⟩⟩
/-- must the call k stand ahead of the call i? -/
def edgeB (cs : List S70) (mk : Mk) (k i : Nat) : Bool :=
  decide (k ≠ i) && (decide ((rd_T70 cs k).f1 < (rd_T70 cs i).f0) || (sawB cs mk (rd_T70 cs i) k || missedB cs mk (rd_T70 cs k) i))
abbrev Nth (n : Nat) := { k : Nat // k < n }
/-- the calls below m that must stand ahead of the call i -/
def aheadTo (cs : List S70) (mk : Mk) (n i : Nat) : (m : Nat) → m ≤ n → List (Nth n)
  | 0, _ => []
  | m + 1, h => aheadTo cs mk n i m (by omega) ++ if edgeB cs mk m i = true then [⟨m, h⟩] else []
theorem aheadTo_len (cs : List S70) (mk : Mk) (n i : Nat) : ∀ (m : Nat) (h : m ≤ n), (aheadTo cs mk n i m h).length ≤ m := by
  intro m
  induction m with
  | zero => intro h; exact Nat.le_refl _
  | succ m ih =>
    intro h
    unfold aheadTo
    rw [List.length_append]
    have := ih (by omega)
    split
    · simp; omega
    · simp; omega
/-- the blocks that a loop over behind keeps -/
def KeepB (n0 nb : Nat) (b : Nat) : Prop := b < n0 ∨ b = nb ∨ b = nb + 1 ∨ b = nb + 2
abbrev Kp (n0 nb : Nat) (W W' : World) : Prop := Only W W' fun b => ¬ KeepB n0 nb b
theorem Kp.at {n0 nb : Nat} {W W' : World} (h : Kp n0 nb W W') {b : Nat} (hb : b < W.heap.size) (hk : KeepB n0 nb b) : W'.heap[b]? = W.heap[b]? := h.block b hb fun q => q hk
theorem kpt {n0 nb : Nat} {A B C : World} (h : Kp n0 nb A B) (k : Kp n0 nb B C) : Kp n0 nb A C := h.trans' k
theorem only_putObj {W : World} {S : Nat → Prop} (l : Nat) (o : Obj) (hs : S l) : Only W (W.putObj l o) S :=
  (Only.refl W S).grown (grownBy_putObj' W l o) fun g e => by cases e; exact .inl hs
theorem kpb {n0 nb : Nat} {w : World} (hn : n0 ≤ nb) (hs : nb + 3 ≤ w.heap.size) (W : World) (l : Nat) (o o' : Obj) (hl : w.heap.size ≤ l) (_ : W.heap[l]? = some o) (_ : o.isCells = false) (_ : o.isWalk = false) : Kp n0 nb W (W.putObj l o') :=
  only_putObj l o' fun q => by unfold KeepB at q; omega
end Go.Proofs.Ytfahoomkpammiaa
namespace Go.Proofs.Ytfahoomkpammiaa
open Go.RowKit Go.MapKept Go.Shelf Go.Proofs.YtfahoomkpammiaaW.PrintWords Go.Proofs.YtfahoomkpammiaaW.PrintLast Go.Proofs.YtfahoomkpammiaaW.PrintMore Go.Proofs.Ytfahoomkpammiaa.PHistOrders
attribute [local go_sem] Oper.semAt_some
structure St (w0 W : World) (nb p : Nat) (cs : List S70) (mk : Mk) (A : Option Addr) (cc b i : Nat) (E7 : Option Addr) (e7 : Nat) (E8 : Option Addr) (e8 : Nat) : Prop where
  book : BookAt W p cs mk A cc b
  laid : Laid W nb p i (rd_T70 cs i) E7 e7 E8 e8
  l7 : (rd_T70 cs i).f3.f2.length ≤ e7
  g7 : (Kd.int .i64).C W E7 (rd_T70 cs i).f3.f2.length (rd_T70 cs i).f3.f2
  base : Below w0.heap.size w0 W
theorem St.below {w0 W W1 : World} {nb p : Nat} {cs : List S70} {mk : Mk} {A : Option Addr} {cc b i : Nat} {E7 : Option Addr} {e7 : Nat} {E8 : Option Addr} {e8 : Nat} (h : St w0 W nb p cs mk A cc b i E7 e7 E8 e8) (hb : Below W.heap.size W W1) : St w0 W1 nb p cs mk A cc b i E7 e7 E8 e8 :=
  ⟨h.book.below hb, h.laid.of fun x hx => hb.block x (by rcases hx with rfl | rfl | rfl; exact blk_lt h.laid.b; exact blk_lt h.laid.i; exact blk_lt h.laid.c), h.l7, Kd.C_below h.g7 hb, below_step h.base hb⟩
theorem grown_none {W W1 : World} (hb : Below W.heap.size W W1) : W.grownBy W1 none := ⟨hb.os, hb.tape, hb.output, hb.size, fun k hk _ => hb.block k hk⟩
theorem J_below {β : Type} {B : Nat} {J : β → World → Prop} (hJ : AbidesFrom B J) {s : β} {W W1 : World} (h : J s W) (hb : Below W.heap.size W W1) : J s W1 := hJ s W W1 none h (grown_none hb) fun r e => by cases e
theorem aheadTo_yes {cs : List S70} {mk : Mk} {n i m : Nat} (h : m + 1 ≤ n) (he : edgeB cs mk m i = true) : aheadTo cs mk n i (m + 1) h = aheadTo cs mk n i m (by omega) ++ [⟨m, h⟩] := by
  show aheadTo cs mk n i m _ ++ (if edgeB cs mk m i = true then [(⟨m, h⟩ : Nth n)] else []) = _
  rw [if_pos he]
theorem aheadTo_no {cs : List S70} {mk : Mk} {n i m : Nat} (h : m + 1 ≤ n) (he : edgeB cs mk m i = false) : aheadTo cs mk n i (m + 1) h = aheadTo cs mk n i m (by omega) := by
  show aheadTo cs mk n i m _ ++ (if edgeB cs mk m i = true then [(⟨m, h⟩ : Nth n)] else []) = _
  rw [if_neg (by rw [he]; simp), List.append_nil]
set_option maxRecDepth 100000 in
set_option maxHeartbeats 4000000 in
theorem behind_in (n : Nat) (hn : 1 ≤ n) (w0 : World) (nb p : Nat) (cs : List S70) (mk : Mk) (A : Option Addr) (cc b i : Nat) (hi : i < cs.length) (E7 : Option Addr) (e7 : Nat) (E8 : Option Addr) (e8 : Nat)
    (hK : ∀ j, j < cs.length → (rd_T70 cs j).f3.f2.length ≤ 9223372036854775807)
    (l : Nat) (J Jx : List (Nth cs.length) → World → Prop) (W : World) (hJ : AbidesFrom W.heap.size J)
    (hY : ∀ (pre : List (Nth cs.length)) (x : Nth cs.length) (W1 : World), J pre W1 → pre.length < cs.length → YieldAt Fence.wide (n - 1) Try.prog l #[.int .i64 (x.1 : Int)] W1 fun e W' =>
      (e = .returned (.bool true) ∧ J (pre ++ [x]) W' ∧ Kp w0.heap.size nb W1 W') ∨ (e = .returned (.bool false) ∧ Jx (pre ++ [x]) W'))
    (hkeep : ∀ W1 W', St w0 W1 nb p cs mk A cc b i E7 e7 E8 e8 → Kp w0.heap.size nb W1 W' → St w0 W' nb p cs mk A cc b i E7 e7 E8 e8)
    (hS : St w0 W nb p cs mk A cc b i E7 e7 E8 e8) (h0 : J [] W) :
    CallsIn Fence.wide n Try.prog 46 #[.func (.yield l) #[] #[], .pointer (some ⟨nb, 0, none⟩), .pointer (some ⟨nb + 1, 0, none⟩), .pointer (some ⟨nb + 2, 0, none⟩)] W fun e W' =>
      (∃ v, e = .returned v) ∧ ((∃ xs, xs = aheadTo cs mk cs.length i cs.length (Nat.le_refl _) ∧ J xs W') ∨ (∃ pre, True ∧ Jx pre W')) := by
  have hcl : cs.length ≤ 2147483647 := hS.book.len
  have c0 := blk_cell hS.book.blk (i := 0) rfl
  have b0 := blk_cell hS.laid.b (i := 0) rfl
  have hu := Try.underlying65
  have hu2 := Try.underlying58
  have HH := Lib.hid (And.intro hJ (And.intro hY (And.intro hkeep (And.intro hS h0))))
  clear hJ hY hkeep hS h0
  refine callsIn_of_wp Try.func46 rfl trivial ?_ rfl
  simp only [Try.ntmps46, List.size_toArray, List.length_cons, List.length_nil, Nat.reduceAdd, Nat.reduceSub, Array.replicate_succ, Array.replicate_zero, List.push_toArray, List.append_toArray, List.nil_append, List.cons_append]
  gi_wp2
  gi_loopw [12] (fun s wr => ∃ k : Nat, ∃ hk : k ≤ cs.length, s = .int .i64 k ∧ J (aheadTo cs mk cs.length i k hk) wr ∧ St w0 wr nb p cs mk A cc b i E7 e7 E8 e8)
    (fun s _ => cs.length - (intOf s).toNat)
  case atStart => exact ⟨0, Nat.zero_le _, rfl, HH.out.2.2.2.2, HH.out.2.2.2.1⟩
  case round =>
    obtain ⟨k, hk, rfl, hJs, hSt⟩ := hrel
    have HS := Lib.hid (And.intro hJs hSt)
    clear hJs hSt
    by_cases hlt : k < cs.length
    · have hlD : decide ((k : Int) < (cs.length : Int)) = true := by simp; omega
      have hal := aheadTo_len cs mk cs.length i k hk
      obtain ⟨ad, F7, f7, F8, f8, hA, q0, q1, q2, q3, q4, q5, q6, q7, q8, m7, g7, m8, g8⟩ := at_T70 (w := wr) HS.out.2.book.row k (by omega) (by omega)
      subst hA
      simp only [Int.toNat_natCast] at q0 q1 q2 q3 q4 q5 q6 q7 q8
      have pa := World.block_lt_of_cell? wr _ q2
      dsimp only at pa
      have HG := Lib.hid (And.intro m7 g7)
      clear m7 g7 m8 g8
      obtain ⟨d, hd⟩ : ∃ d, d = rd_T70 cs k := ⟨_, rfl⟩
      rw [← hd] at q0 q1 q2 q3 q4 q5 q6 q7 q8
      have HD := Lib.hid hd
      clear hd
      have s0 := blk_cell HS.out.2.laid.b (i := 0) rfl
      have s1 := blk_cell HS.out.2.laid.i (i := 0) rfl
      have y0 := blk_cell HS.out.2.laid.c (i := 0) rfl
      have y1 := blk_cell HS.out.2.laid.c (i := 1) rfl
      have y2 := blk_cell HS.out.2.laid.c (i := 2) rfl
      have y3 := blk_cell HS.out.2.laid.c (i := 3) rfl
      have y4 := blk_cell HS.out.2.laid.c (i := 4) rfl
      have y5 := blk_cell HS.out.2.laid.c (i := 5) rfl
      have y6 := blk_cell HS.out.2.laid.c (i := 6) rfl
      have y7 := blk_cell HS.out.2.laid.c (i := 7) rfl
      have y8 := blk_cell HS.out.2.laid.c (i := 8) rfl
      have n0 := blk_lt HS.out.2.laid.b
      have n1 := blk_lt HS.out.2.laid.i
      have n2 := blk_lt HS.out.2.laid.c
      obtain ⟨c, hc⟩ : ∃ c, c = rd_T70 cs i := ⟨_, rfl⟩
      rw [← hc] at y0 y1 y2 y3 y4 y5 y6 y7 y8
      have HC := Lib.hid hc
      clear hc c0 b0
      by_cases hki : k = i
      · have HE : Hid (edgeB cs mk k i = false) := Lib.hid (by unfold edgeB; simp [hki])
        have e1 : ((k : Int) == (i : Int)) = true := by simp [hki]
        have e2 : ((k : Int) != (i : Int)) = false := by simp [hki]
        have e3 : (k == i) = true := by simp [hki]
        have e4 : (k != i) = false := by simp [hki]
        have HKI := Lib.hid hki
        clear hki
        gi_wp2
        iterate 4 (all_goals first | (exfalso; rename_i x b h1 h2; cases h1; done) | (refine ⟨trivial, ?_⟩; gi_wp2) | (refine ⟨fun _ q => (by cases q), ?_⟩; gi_wp2) | skip)
        go_roundw
        case rel => exact ⟨k + 1, hlt, by go_num, by rw [aheadTo_no hlt HE.out]; exact J_below HH.out.1 HS.out.1 (below_alloc (Below.refl _ _) _), HS.out.2.below (below_alloc (Below.refl _ _) _)⟩
        case measure => simp [intOf]; omega
      · obtain ⟨e1, e2, e3, _⟩ := ne_forms (show (k : Int) ≠ (i : Int) by omega)
        obtain ⟨e4, e5, e6⟩ := nat_ne_forms hki
        have HKI := Lib.hid hki
        clear hki
        by_cases hto : d.f1 < c.f0
        · have HE : Hid (edgeB cs mk k i = true) := Lib.hid (by unfold edgeB; rw [← HD.out, ← HC.out]; simp [HKI.out, hto])
          have t1 : decide (d.f1 < c.f0) = true := decide_eq_true hto
          have HTO := Lib.hid hto
          clear hto
          obtain ⟨fn, tmps, assign, body, hy, hR⟩ := HH.out.2.1 _ (⟨k, hlt⟩ : Nth cs.length) (wr.alloc (.cells #[.int .i64 d.f0, .int .i64 d.f1, .int .i64 d.f2.f0, .int .i64 d.f2.f1, .string d.f2.f2, .bool d.f3.f0, .string d.f3.f1, .slice F7 d.f3.f2.length f7, .slice F8 d.f3.f3.length f8] 65)) (J_below HH.out.1 HS.out.1 (below_alloc (Below.refl _ _) _)) (by omega)
          dsimp only at hy
          have HR := Lib.hid hR
          clear hR hal
          gi_wp2
          iterate 2 (all_goals first | (exfalso; rename_i x b h1 h2; cases h1; done) | (refine ⟨trivial, ?_⟩; gi_wp2) | (refine ⟨fun _ q => (by cases q), ?_⟩; gi_wp2) | skip)
          refine HR.out.mono ?_
          rintro e W3 (⟨rfl, hJ3, hk3⟩ | ⟨rfl, hJx3⟩)
          · have H3 := Lib.hid (And.intro hJ3 hk3)
            clear hJ3 hk3
            gi_wp2
            go_roundw
            case rel => exact ⟨k + 1, hlt, by go_num, by rw [aheadTo_yes hlt HE.out]; exact H3.out.1, HH.out.2.2.1 _ _ (HS.out.2.below (below_alloc (Below.refl _ _) _)) H3.out.2⟩
            case measure => simp [intOf]; omega
          · gi_wp2
            refine bodyPost_ret (results_none rfl _ _ _) rfl ?_
            exact ⟨⟨_, rfl⟩, .inr ⟨_, trivial, hJx3⟩⟩
        · have t1 : decide (d.f1 < c.f0) = false := decide_eq_false hto
          have HTO := Lib.hid hto
          clear hto
          gi_wp2
          all_goals first | (exfalso; rename_i x b h1 h2; cases h1; done) | skip
          refine ⟨trivial, ?_⟩
          refine (callsIn_wide.2 (saw_calls (HS.out.2.book.below (below_alloc (Below.refl _ _) _)) c E7 e7 E8 e8 (by rw [HC.out]; exact HS.out.2.l7) (by rw [HC.out]; exact Kd.C_below HS.out.2.g7 (below_alloc (Below.refl _ _) _)) (by rw [HC.out]; exact hK i hi) k hlt)).mono ?_
          rintro e w1 ⟨rfl, hb1⟩
          have hS1 := (HS.out.2.below (below_alloc (Below.refl wr.heap.size wr) (.cells #[.int .i64 d.f0, .int .i64 d.f1, .int .i64 d.f2.f0, .int .i64 d.f2.f1, .string d.f2.f2, .bool d.f3.f0, .string d.f3.f1, .slice F7 d.f3.f2.length f7, .slice F8 d.f3.f3.length f8] 65))).below hb1
          have hbx := blk_below (blk_new wr (.cells #[.int .i64 d.f0, .int .i64 d.f1, .int .i64 d.f2.f0, .int .i64 d.f2.f1, .string d.f2.f2, .bool d.f3.f0, .string d.f3.f1, .slice F7 d.f3.f2.length f7, .slice F8 d.f3.f3.length f8] 65)) hb1
          have HW1 := Lib.hid (And.intro hb1 (And.intro hbx hS1))
          clear hb1 hbx hS1 q0 q1 q2 q3 q4 q5 q6 q7 q8 s0 s1 y0 y1 y2 y3 y4 y5 y6 y7 y8 n0 n1 n2 pa
          cases hsaw : sawB cs mk c k with
          | true =>
            have HE : Hid (edgeB cs mk k i = true) := Lib.hid (by unfold edgeB; rw [← HD.out, ← HC.out, hsaw]; simp [HKI.out])
            have HSAW := Lib.hid hsaw
            clear hsaw
            obtain ⟨fn, tmps, assign, body, hy, hR⟩ := HH.out.2.1 _ (⟨k, hlt⟩ : Nth cs.length) w1 (J_below HH.out.1 HS.out.1 (below_step (below_alloc (Below.refl _ _) _) HW1.out.1)) (by omega)
            dsimp only at hy
            have HR := Lib.hid hR
            clear hR hal
            gi_wp2
            all_goals first | (exfalso; rename_i x b h1 h2; cases h1; done) | (refine ⟨trivial, ?_⟩; gi_wp2)
            refine HR.out.mono ?_
            rintro e W3 (⟨rfl, hJ3, hk3⟩ | ⟨rfl, hJx3⟩)
            · have H3 := Lib.hid (And.intro hJ3 hk3)
              clear hJ3 hk3
              gi_wp2
              go_roundw
              case rel => exact ⟨k + 1, hlt, by go_num, by rw [aheadTo_yes hlt HE.out]; exact H3.out.1, HH.out.2.2.1 _ _ HW1.out.2.2 H3.out.2⟩
              case measure => simp [intOf]; omega
            · gi_wp2
              refine bodyPost_ret (results_none rfl _ _ _) rfl ?_
              exact ⟨⟨_, rfl⟩, .inr ⟨_, trivial, hJx3⟩⟩
          | false =>
            have HSAW := Lib.hid hsaw
            clear hsaw
            have s0 := blk_cell HW1.out.2.2.laid.b (i := 0) rfl
            have s1 := blk_cell HW1.out.2.2.laid.i (i := 0) rfl
            have x0 := blk_cell HW1.out.2.1 (i := 0) rfl
            have x1 := blk_cell HW1.out.2.1 (i := 1) rfl
            have x2 := blk_cell HW1.out.2.1 (i := 2) rfl
            have x3 := blk_cell HW1.out.2.1 (i := 3) rfl
            have x4 := blk_cell HW1.out.2.1 (i := 4) rfl
            have x5 := blk_cell HW1.out.2.1 (i := 5) rfl
            have x6 := blk_cell HW1.out.2.1 (i := 6) rfl
            have x7 := blk_cell HW1.out.2.1 (i := 7) rfl
            have x8 := blk_cell HW1.out.2.1 (i := 8) rfl
            gi_wp2
            refine ⟨trivial, ?_⟩
            refine (callsIn_wide.2 (missed_calls HW1.out.2.2.book d F7 f7 F8 f8 (by rw [HD.out]; exact HG.out.1) (by rw [HD.out]; exact Kd.C_below (Kd.C_below HG.out.2 (below_alloc (Below.refl _ _) _)) HW1.out.1) (by rw [HD.out]; exact hK k hlt) i hi)).mono ?_
            rintro e w2 ⟨rfl, hb2⟩
            have HW2 := Lib.hid (And.intro hb2 (HW1.out.2.2.below hb2))
            clear hb2 s0 s1 x0 x1 x2 x3 x4 x5 x6 x7 x8
            cases hmis : missedB cs mk d i with
            | true =>
              have HE : Hid (edgeB cs mk k i = true) := Lib.hid (by unfold edgeB; rw [← HD.out, ← HC.out, hmis]; simp [HKI.out])
              have HMIS := Lib.hid hmis
              clear hmis
              obtain ⟨fn, tmps, assign, body, hy, hR⟩ := HH.out.2.1 _ (⟨k, hlt⟩ : Nth cs.length) w2 (J_below HH.out.1 HS.out.1 (below_step (below_step (below_alloc (Below.refl _ _) _) HW1.out.1) HW2.out.1)) (by omega)
              dsimp only at hy
              have HR := Lib.hid hR
              clear hR hal
              gi_wp2
              refine HR.out.mono ?_
              rintro e W3 (⟨rfl, hJ3, hk3⟩ | ⟨rfl, hJx3⟩)
              · have H3 := Lib.hid (And.intro hJ3 hk3)
                clear hJ3 hk3
                gi_wp2
                go_roundw
                case rel => exact ⟨k + 1, hlt, by go_num, by rw [aheadTo_yes hlt HE.out]; exact H3.out.1, HH.out.2.2.1 _ _ HW2.out.2 H3.out.2⟩
                case measure => simp [intOf]; omega
              · gi_wp2
                refine bodyPost_ret (results_none rfl _ _ _) rfl ?_
                exact ⟨⟨_, rfl⟩, .inr ⟨_, trivial, hJx3⟩⟩
            | false =>
              have HE : Hid (edgeB cs mk k i = false) := Lib.hid (by unfold edgeB; rw [← HD.out, ← HC.out, hmis, HSAW.out]; simp [HTO.out])
              have HMIS := Lib.hid hmis
              clear hmis
              gi_wp2
              all_goals first | (refine ⟨fun _ q => (by cases q), ?_⟩; gi_wp2) | skip
              go_roundw
              case rel => exact ⟨k + 1, hlt, by go_num, by rw [aheadTo_no hlt HE.out]; exact J_below HH.out.1 HS.out.1 (below_step (below_step (below_alloc (Below.refl _ _) _) HW1.out.1) HW2.out.1), HW2.out.2⟩
              case measure => simp [intOf]; omega
    · obtain rfl : k = cs.length := by omega
      gi_wp2
      go_end0
      exact ⟨⟨_, rfl⟩, .inl ⟨_, rfl, HS.out.1⟩⟩
theorem Kp.below {n0 nb : Nat} {W W' : World} (h : Kp n0 nb W W') : (∀ b, b < n0 → b < W.heap.size → W'.heap[b]? = W.heap[b]?) := fun _ hb hs => h.at hs (.inl hb)
/-- a loop over behind keeps the state, where the book and the lists lie below n0 -/
theorem St.keep {w0 W1 W' : World} {nb p : Nat} {cs : List S70} {mk : Mk} {A : Option Addr} {cc b i : Nat} {E7 : Option Addr} {e7 : Nat} {E8 : Option Addr} {e8 : Nat} (hb : BookAt w0 p cs mk A cc b) (g7 : (Kd.int .i64).C w0 E7 (rd_T70 cs i).f3.f2.length (rd_T70 cs i).f3.f2)
    (h : St w0 W1 nb p cs mk A cc b i E7 e7 E8 e8) (hk : Kp w0.heap.size nb W1 W') : St w0 W' nb p cs mk A cc b i E7 e7 E8 e8 := by
  have hB : Below w0.heap.size W1 W' := ⟨hk.os, hk.tape, hk.output, hk.size, fun x hx => by
    rcases Nat.lt_or_ge x W1.heap.size with q | q
    · exact hk.at q (.inl hx)
    · have := h.base.size; omega⟩
  have hB2 : Below w0.heap.size w0 W' := h.base.trans hB
  exact ⟨hb.below hB2, h.laid.of fun x hx => hk.at (by rcases hx with rfl | rfl | rfl; exact blk_lt h.laid.b; exact blk_lt h.laid.i; exact blk_lt h.laid.c) (.inr hx), h.l7, Kd.C_below g7 hB2, hB2⟩
/-- the function that behind hands back, as an iterator -/
theorem behind_stops (n : Nat) (hn : 1 ≤ n) (w0 w : World) (nb p : Nat) (cs : List S70) (mk : Mk) (A : Option Addr) (cc b i : Nat) (hi : i < cs.length) (E7 : Option Addr) (e7 : Nat) (E8 : Option Addr) (e8 : Nat)
    (hK : ∀ j, j < cs.length → (rd_T70 cs j).f3.f2.length ≤ 9223372036854775807) (hb : BookAt w0 p cs mk A cc b) (l7 : (rd_T70 cs i).f3.f2.length ≤ e7) (g7 : (Kd.int .i64).C w0 E7 (rd_T70 cs i).f3.f2.length (rd_T70 cs i).f3.f2)
    (h0 : Below w0.heap.size w0 w) (hl : Laid w nb p i (rd_T70 cs i) E7 e7 E8 e8) :
    SeqStopsK Fence.wide n Try.prog 46 #[.pointer (some ⟨nb, 0, none⟩), .pointer (some ⟨nb + 1, 0, none⟩), .pointer (some ⟨nb + 2, 0, none⟩)] (fun x : Nth cs.length => #[Value.int .i64 (x.1 : Int)]) (Kp w0.heap.size nb)
      (fun xs => xs = aheadTo cs mk cs.length i cs.length (Nat.le_refl _)) (fun _ => True) cs.length w := fun l J Jx W hW hJ _ hY hj =>
  behind_in n hn w0 nb p cs mk A cc b i hi E7 e7 E8 e8 hK l J Jx W hJ hY (fun _ _ h k => St.keep hb g7 h k) (St.below ⟨hb.below h0, hl, l7, Kd.C_below g7 h0, h0⟩ hW) hj
end Go.Proofs.Ytfahoomkpammiaa
namespace Go.Proofs.Ytfahoomkpammiaa
open Go.RowKit Go.MapKept Go.Shelf Go.Proofs.YtfahoomkpammiaaW.PrintWords Go.Proofs.YtfahoomkpammiaaW.PrintLast Go.Proofs.YtfahoomkpammiaaW.PrintMore Go.Proofs.Ytfahoomkpammiaa.PHistOrders
theorem run_make_rowN {P : Program} (t e : TypeId) (i : TypeInfo) (z : Value) (ht : P.underlying t = some (.slice e)) (hi : P.info? e = some i) (hz : i.zero = some z)
    (kl kc : IntKind) (n c : Nat) (hnc : n ≤ c) (hbytes : i.bytes * c ≤ 281474976710656) (h63 : c ≤ 9223372036854775807) (w : World) :
    (Instr.makeSlice t (.int kl (n : Int)) (.int kc (c : Int))).run P w = .ok (.slice (some ⟨w.heap.size, 0, none⟩) n c) (w.alloc (.cells (madeCells z.cells (c * i.size)) e)) := by
  have hb : (i.bytes : Int) * (c : Int) ≤ 281474976710656 := by
    have h : ((i.bytes * c : Nat) : Int) ≤ 281474976710656 := by omega
    rwa [Int.natCast_mul] at h
  have hr := run_make (P := P) w t e i z ht hi hz kl kc n c (by omega) (by omega) hb (by omega)
  simp only [Int.toNat_natCast] at hr
  exact hr
theorem madeCells_one (z : Value) (hz : z.cells = #[z]) (n : Nat) : madeCells z.cells (n * 1) = (List.replicate n z).toArray := by
  apply Array.ext'
  apply List.ext_getElem?
  intro i
  rw [hz]
  simp only [madeCells, Array.toList_map, Array.toList_range, List.getElem?_map, List.getElem?_replicate, Nat.mul_one]
  by_cases h : i < n
  · rw [List.getElem?_range h, if_pos h]
    simp [Nat.mod_one]
  · rw [List.getElem?_eq_none (by simp; omega), if_neg h]
    rfl
theorem infoInts : (Try.prog.info? 25).map (fun i => (i.zero, i.size, i.bytes)) = some (some (.slice none 0 0), 1, 24) := by kernel_rfl
theorem run_makeInts (n : Nat) (hn : n ≤ 1099511627776) : ∀ w, (Instr.makeSlice 25 (.int .i64 (n : Int)) (.int .i64 (n : Int))).run Try.prog w = .ok (.slice (some ⟨w.heap.size, 0, none⟩) n n) (w.alloc (.cells (List.replicate n (Value.int .i64 0)).toArray 3)) := by
  intro w
  obtain ⟨i0, hi, hz0, hz1, hz2⟩ := info_parts info3
  have := run_make_rowN 25 3 i0 _ Try.underlying25 hi hz0 .i64 .i64 n n (Nat.le_refl _) (by rw [hz2]; omega) (by omega) w
  rw [hz1, madeCells_one _ rfl] at this
  exact this
theorem run_makeRows (n : Nat) (hn : n ≤ 1099511627776) : ∀ w, (Instr.makeSlice 59 (.int .i64 (n : Int)) (.int .i64 (n : Int))).run Try.prog w = .ok (.slice (some ⟨w.heap.size, 0, none⟩) n n) (w.alloc (.cells (List.replicate n (Value.slice none 0 0)).toArray 25)) := by
  intro w
  obtain ⟨i0, hi, hz0, hz1, hz2⟩ := info_parts infoInts
  have := run_make_rowN 59 25 i0 _ Try.underlying59 hi hz0 .i64 .i64 n n (Nat.le_refl _) (by rw [hz2]; omega) (by omega) w
  rw [hz1, madeCells_one _ rfl] at this
  exact this
theorem nameWI {F : Fence} {n : Nat} {P : Program} {C : Code} {Q : Exit → Act → World → Prop} {a : Act} {W : World} (h : ∀ V, V = W → Code.wpIn F n P C Q a V) : Code.wpIn F n P C Q a W := h W rfl
section
variable {F : Fence} {n' : Nat} {P : Program} (w : World)
/-- an append that is not reckoned through -/
structure AppIn (F : Fence) (n : Nat) (P : Program) (o : Oper) (a : Act) (w : World) (K : Act → World → Prop) (Q : Exit → Act → World → Prop) : Prop where
  out : o.wpIn F n P a w K Q
end
abbrev i64s (l : List Int) : List Value := l.map (Value.int .i64)
/-- block g holds slices, each a row of its own of ints; the rows' blocks are ok -/
structure RowsAt (W : World) (g : Nat) (bs : List (List Int)) (ok : Nat → Prop) (vs : List Value) : Prop where
  blk : W.heap[g]? = some (.cells vs.toArray 25 (0, 0))
  len : vs.length = bs.length
  row : ∀ (i : Nat) (v : Value) (l : List Int), vs[i]? = some v → bs[i]? = some l → W.ownsRow 0 3 1 v l.length (i64s l)
  ok : ∀ (i : Nat) (v : Value) (h : Nat), vs[i]? = some v → v.ownBlock = some h → ok h
  apart : ∀ (i j : Nat) (v v' : Value) (h : Nat), vs[i]? = some v → vs[j]? = some v' → v.ownBlock = some h → v'.ownBlock = some h → i = j
/-- the numbers that wait (in g8, told by x8), the lists (in g9, told by x9) -/
structure KMem (W : World) (N : Nat) (ws : List Int) (bs : List (List Int)) (ok : Nat → Prop) : Prop where
  w8 : W.heap[N + 1]? = some (.cells #[.slice (some ⟨N, 0, none⟩) ws.length ws.length] 25 (0, 0))
  g8 : W.heap[N]? = some (.cells (i64s ws).toArray 3 (0, 0))
  w9 : W.heap[N + 3]? = some (.cells #[.slice (some ⟨N + 2, 0, none⟩) bs.length bs.length] 59 (0, 0))
  g9 : ∃ vs, RowsAt W (N + 2) bs ok vs
  no : ∀ b, ok b → N + 4 ≤ b
/-- what is kept, all these stay -/
theorem RowsAt.keep {W W1 : World} {g : Nat} {bs : List (List Int)} {ok : Nat → Prop} {vs : List Value} (h : RowsAt W g bs ok vs) (hk : ∀ b, b = g ∨ ok b → b < W.heap.size → (∃ o : Obj, W.heap[b]? = some o ∧ o.isCells = true) → W1.heap[b]? = W.heap[b]?) : RowsAt W1 g bs ok vs := by
  refine ⟨(hk g (.inl rfl) (blk_lt h.blk) ⟨_, h.blk, rfl⟩).trans h.blk, h.len, fun i v l hv hl => ?_, h.ok, h.apart⟩
  have ho := h.row i v l hv hl
  refine ⟨ho.1, ?_⟩
  rcases ho.2 with hh | ⟨g2, cap, cur, rfl, hb, hgg, rest⟩
  · exact .inl hh
  · refine .inr ⟨g2, cap, cur, rfl, hb, ?_, rest⟩
    rw [hk g2 (.inr (h.ok i _ g2 hv rfl)) (blk_lt hgg) ⟨_, hgg, rfl⟩]
    exact hgg
theorem KMem.keep {W W1 : World} {N : Nat} {ws : List Int} {bs : List (List Int)} {ok : Nat → Prop} (h : KMem W N ws bs ok) (hk : ∀ b, (N ≤ b ∧ b < N + 4) ∨ ok b → b < W.heap.size → (∃ o : Obj, W.heap[b]? = some o ∧ o.isCells = true) → W1.heap[b]? = W.heap[b]?) : KMem W1 N ws bs ok := by
  obtain ⟨vs, hv⟩ := h.g9
  refine ⟨(hk _ (.inl (by omega)) (blk_lt h.w8) ⟨_, h.w8, rfl⟩).trans h.w8, (hk _ (.inl (by omega)) (blk_lt h.g8) ⟨_, h.g8, rfl⟩).trans h.g8, (hk _ (.inl (by omega)) (blk_lt h.w9) ⟨_, h.w9, rfl⟩).trans h.w9, ⟨vs, hv.keep fun b hb => hk b ?_⟩, h.no⟩
  rcases hb with rfl | hb
  · exact .inl (by omega)
  · exact .inr hb
theorem KMem.ok {W : World} {N : Nat} {ws : List Int} {bs : List (List Int)} {ok ok' : Nat → Prop} (h : KMem W N ws bs ok) (hi : ∀ b, ok b → b < W.heap.size → ok' b) (hn : ∀ b, ok' b → N + 4 ≤ b) : KMem W N ws bs ok' := by
  obtain ⟨vs, hv⟩ := h.g9
  refine ⟨h.w8, h.g8, h.w9, ⟨vs, hv.blk, hv.len, hv.row, fun i v g hi' hg => hi g (hv.ok i v g hi' hg) ?_, hv.apart⟩, hn⟩
  have hlt : i < bs.length := by rw [← hv.len]; exact (List.getElem?_eq_some_iff.1 hi').1
  exact own_lt (hv.row i v _ hi' (List.getElem?_eq_getElem hlt)) hg
/-- at the start -/
theorem KMem.start {w : World} (n : Nat) : KMem ((((w.alloc (.cells (List.replicate n (Value.int .i64 0)).toArray 3)).alloc (.cells #[.slice (some ⟨w.heap.size, 0, none⟩) n n] 25)).alloc (.cells (List.replicate n (Value.slice none 0 0)).toArray 25)).alloc (.cells #[.slice (some ⟨w.heap.size + 2, 0, none⟩) n n] 59)) w.heap.size (List.replicate n 0) (List.replicate n []) (fun b => w.heap.size + 4 ≤ b) := by
  refine ⟨?_, ?_, ?_, ⟨List.replicate n (.slice none 0 0), ?_, by simp, fun i v l hv hl => ?_, fun i v h hv hb => ?_, fun i j v v' h hv _ hb _ => ?_⟩, fun _ q => q⟩
  · have := blk_new (w.alloc (.cells (List.replicate n (Value.int .i64 0)).toArray 3)) (.cells #[.slice (some ⟨w.heap.size, 0, none⟩) n n] 25)
    simp only [World.size_alloc] at this
    simpa using blk_alloc (blk_alloc this _) _
  · have := blk_new w (.cells (List.replicate n (Value.int .i64 0)).toArray 3)
    have h2 := blk_alloc (blk_alloc (blk_alloc this (.cells #[.slice (some ⟨w.heap.size, 0, none⟩) n n] 25)) (.cells (List.replicate n (Value.slice none 0 0)).toArray 25)) (.cells #[.slice (some ⟨w.heap.size + 2, 0, none⟩) n n] 59)
    rw [show i64s (List.replicate n 0) = List.replicate n (Value.int .i64 0) by simp]
    exact h2
  · have := blk_new (((w.alloc (.cells (List.replicate n (Value.int .i64 0)).toArray 3)).alloc (.cells #[.slice (some ⟨w.heap.size, 0, none⟩) n n] 25)).alloc (.cells (List.replicate n (Value.slice none 0 0)).toArray 25)) (.cells #[.slice (some ⟨w.heap.size + 2, 0, none⟩) n n] 59)
    simp only [World.size_alloc] at this
    simpa using this
  · have := blk_new ((w.alloc (.cells (List.replicate n (Value.int .i64 0)).toArray 3)).alloc (.cells #[.slice (some ⟨w.heap.size, 0, none⟩) n n] 25)) (.cells (List.replicate n (Value.slice none 0 0)).toArray 25)
    simp only [World.size_alloc] at this
    exact blk_alloc this _
  · rw [List.getElem?_replicate] at hv hl
    split at hv
    · rename_i hi
      rw [if_pos hi] at hl
      cases hv
      cases hl
      exact World.ownsRow_nil _ _ _ _
    · cases hv
  · rw [List.getElem?_replicate] at hv
    split at hv
    · cases hv; cases hb
    · cases hv
  · rw [List.getElem?_replicate] at hv
    split at hv
    · cases hv; cases hb
    · cases hv
theorem KMem.setW {W : World} {N : Nat} {ws : List Int} {bs : List (List Int)} {ok : Nat → Prop} (h : KMem W N ws bs ok) (i : Nat) (x : Int) : KMem (W.setCell ⟨N, i, none⟩ (.int .i64 x)) N (ws.set i x) bs ok := by
  obtain ⟨vs, hv⟩ := h.g9
  have hfar : ∀ b, b ≠ N → (W.setCell ⟨N, i, none⟩ (.int .i64 x)).heap[b]? = W.heap[b]? := fun b hb => Below.heap_setCell W ⟨N, i, none⟩ _ b hb
  refine ⟨by rw [List.length_set]; exact (hfar _ (by omega)).trans h.w8, ?_, (hfar _ (by omega)).trans h.w9, ⟨vs, hv.keep fun b hb _ _ => hfar b ?_⟩, h.no⟩
  · have := blk_set h.g8 i (.int .i64 x)
    rw [this]
    simp [i64s, List.map_set]
  · rcases hb with rfl | hb
    · omega
    · have := h.no b hb; omega
/-- a list that was gone on with -/
theorem KMem.app {W W1 W2 : World} {N : Nat} {ws : List Int} {bs : List (List Int)} {ok : Nat → Prop} {vs : List Value} (h : KMem W N ws bs ok) (hv : RowsAt W (N + 2) bs ok vs) {k : Nat} {v : Value} (hk : vs[k]? = some v) {l : List Int}
    (hb1 : Below W.heap.size W W1) (hg : W1.grownBy W2 v.ownBlock) {A : Option Addr} {C : Nat} (ho : W2.ownsRow 0 3 1 (.slice A l.length C) l.length (i64s l)) (hA : A.map Addr.block = v.ownBlock ∨ A.map Addr.block = some W1.heap.size) :
    KMem (W2.setCell ⟨N + 2, k, none⟩ (.slice A l.length C)) N ws (bs.set k l) (fun b => ok b ∨ W.heap.size ≤ b) ∧ ∀ b, b ≠ N + 2 → ¬ ok b → b < W.heap.size → (W2.setCell ⟨N + 2, k, none⟩ (.slice A l.length C)).heap[b]? = W.heap[b]? := by
  have hkl : k < bs.length := by rw [← hv.len]; exact (List.getElem?_eq_some_iff.1 hk).1
  have hvok : ∀ g, v.ownBlock = some g → ok g ∧ g < W.heap.size := fun g hg => ⟨hv.ok k v g hk hg, own_lt (hv.row k v _ hk (List.getElem?_eq_getElem hkl)) hg⟩
  have hstep : ∀ b, b < W.heap.size → v.ownBlock ≠ some b → W2.heap[b]? = W.heap[b]? := fun b hb hn => (hg.block b (Nat.lt_of_lt_of_le hb hb1.size) (fun e => hn e.symm)).trans (hb1.block b hb)
  have hfar : ∀ b, b ≠ N + 2 → (W2.setCell ⟨N + 2, k, none⟩ (.slice A l.length C)).heap[b]? = W2.heap[b]? := fun b hb => Below.heap_setCell W2 ⟨N + 2, k, none⟩ _ b hb
  have hnv : ∀ b, b < N + 4 → v.ownBlock ≠ some b := fun b hb e => by have := h.no b (hvok b e).1; omega
  have hAok : ∀ g, A.map Addr.block = some g → (ok g ∧ v.ownBlock = some g) ∨ W.heap.size ≤ g := fun g hg => by
    rcases hA with q | q
    · rw [q] at hg; exact .inl ⟨(hvok g hg).1, hg⟩
    · rw [q] at hg; cases hg; exact .inr hb1.size
  have hN2 : N + 2 < W.heap.size := blk_lt hv.blk
  refine ⟨⟨?_, ?_, ?_, ⟨vs.set k (.slice A l.length C), ?_, by simp [hv.len], fun i u m hu hm => ?_, fun i u g hu hg => ?_, fun i j u u' g hu hu' hg hg' => ?_⟩, fun b hb => ?_⟩, fun b h1 h2 h3 => ?_⟩
  · exact (hfar _ (by omega)).trans ((hstep _ (blk_lt h.w8) (hnv _ (by omega))).trans h.w8)
  · exact (hfar _ (by omega)).trans ((hstep _ (blk_lt h.g8) (hnv _ (by omega))).trans h.g8)
  · rw [List.length_set]
    exact (hfar _ (by omega)).trans ((hstep _ (blk_lt h.w9) (hnv _ (by omega))).trans h.w9)
  · have := blk_set ((hstep _ hN2 (hnv _ (by omega))).trans hv.blk) k (.slice A l.length C)
    rw [this]
    simp
  · rw [List.getElem?_set] at hu hm
    split at hu
    · rename_i hki
      subst hki
      rw [if_pos rfl, if_pos hkl] at hm
      rw [if_pos (by rw [hv.len]; exact hkl)] at hu
      cases hu
      cases hm
      refine own_far ho (fun e => ?_) _
      rw [own_map] at e
      rcases hAok _ e with ⟨q, _⟩ | q
      · have := h.no _ q; simp at this
      · simp at q; omega
    · rename_i hki
      rw [if_neg hki] at hm
      have hr := hv.row i u m hu hm
      have hne : ∀ g, u.ownBlock = some g → v.ownBlock ≠ some g := fun g h1 h2 => hki (hv.apart k i v u g hk hu h2 h1)
      have hkeep : W2.ownsRow 0 3 1 u m.length (i64s m) := by
        refine ⟨hr.1, ?_⟩
        rcases hr.2 with hh | ⟨g2, cap, cur, rfl, hb, hgg, rest⟩
        · exact .inl hh
        · refine .inr ⟨g2, cap, cur, rfl, hb, ?_, rest⟩
          rw [hstep g2 (blk_lt hgg) (hne g2 rfl)]
          exact hgg
      refine own_far hkeep (fun e => ?_) _
      have := h.no _ (hv.ok i u _ hu e)
      simp at this
  · rw [List.getElem?_set] at hu
    split at hu
    · split at hu
      · cases hu
        rw [own_map] at hg
        rcases hAok g hg with ⟨q, _⟩ | q
        · exact .inl q
        · exact .inr q
      · cases hu
    · exact .inl (hv.ok i u g hu hg)
  · rw [List.getElem?_set] at hu hu'
    have hx : ∀ (a : Nat) (y : Value), a ≠ k → vs[a]? = some y → y.ownBlock = some g → A.map Addr.block = some g → False := fun a y hak hy hyg hAg => by
      rcases hAok g hAg with ⟨_, q⟩ | q
      · exact hak (hv.apart a k y v g hy hk hyg q)
      · have hal : a < bs.length := by rw [← hv.len]; exact (List.getElem?_eq_some_iff.1 hy).1
        have := own_lt (hv.row a y _ hy (List.getElem?_eq_getElem hal)) hyg
        omega
    by_cases h1 : k = i
    · by_cases h2 : k = j
      · exact h1.symm.trans h2
      · rw [if_neg h2] at hu'
        rw [if_pos h1] at hu
        split at hu
        · cases hu
          rw [own_map] at hg
          exact (hx j u' (fun e => h2 e.symm) hu' hg' hg).elim
        · cases hu
    · rw [if_neg h1] at hu
      by_cases h2 : k = j
      · rw [if_pos h2] at hu'
        split at hu'
        · cases hu'
          rw [own_map] at hg'
          exact (hx i u (fun e => h1 e.symm) hu hg hg').elim
        · cases hu'
      · rw [if_neg h2] at hu'
        exact hv.apart i j u u' g hu hu' hg hg'
  · rcases hb with hb | hb
    · exact h.no b hb
    · have := blk_lt h.w9; omega
  · exact (hfar b h1).trans (hstep b h3 fun e => h2 (hvok b e).1)
end Go.Proofs.Ytfahoomkpammiaa
namespace Go.Proofs.Ytfahoomkpammiaa
section
variable {P : Program} {md : Region.Mode} {ops : Array Oper} {Q : Exit → Act → World → Prop}
theorem wpAnyH_step {S : World → Prop} {fuel : Nat} {listed : Array Bool} {a : Act} {w : World} {i : Nat} {o : Oper} (hr : Region.ready md ops listed = [i]) (ho : ops[i]? = some o) (hw : Region.wanted o (yielded ops a.tmps) = true)
    (h : ∀ K : Act → World → Prop, (∀ a' w', S w' → wpAnyH P md ops Q S fuel (listed.setIfInBounds i true) a' w' → K a' w') → o.wp P a w K Q) : wpAnyH P md ops Q S (fuel + 1) listed a w := by
  refine wpAnyH_all hr (by simp) fun j hj => ?_
  obtain rfl := List.mem_singleton.1 hj
  unfold wpOp
  rw [ho]
  dsimp only
  rw [if_pos hw]
  exact .inl (h _ fun _ _ q1 q2 => ⟨q1, q2⟩)
theorem wpAnyH_two {S : World → Prop} {fuel : Nat} {listed : Array Bool} {a : Act} {w : World} {i k : Nat} {o p : Oper} (hr : Region.ready md ops listed = [i, k]) (ho : ops[i]? = some o) (hp : ops[k]? = some p) (hw : Region.wanted o (yielded ops a.tmps) = true) (hw' : Region.wanted p (yielded ops a.tmps) = true)
    (h : ∀ K : Act → World → Prop, (∀ a' w', S w' → wpAnyH P md ops Q S fuel (listed.setIfInBounds i true) a' w' → K a' w') → o.wp P a w K Q) (h' : ∀ K : Act → World → Prop, (∀ a' w', S w' → wpAnyH P md ops Q S fuel (listed.setIfInBounds k true) a' w' → K a' w') → p.wp P a w K Q) : wpAnyH P md ops Q S (fuel + 1) listed a w := by
  refine wpAnyH_all hr (by simp) fun j hj => ?_
  rcases List.mem_cons.1 hj with rfl | hj
  · unfold wpOp
    rw [ho]
    dsimp only
    rw [if_pos hw]
    exact .inl (h _ fun _ _ q1 q2 => ⟨q1, q2⟩)
  · obtain rfl := List.mem_singleton.1 hj
    unfold wpOp
    rw [hp]
    dsimp only
    rw [if_pos hw']
    exact .inl (h' _ fun _ _ q1 q2 => ⟨q1, q2⟩)
end
end Go.Proofs.Ytfahoomkpammiaa
namespace Go.Proofs.Ytfahoomkpammiaa
open Go.RowKit
section
variable {P : Program} {l n : Nat} {md : Region.Mode} {ops : Array Oper} {Q : Exit → Act → World → Prop}
theorem rowsIn_of {row : String} {args : Array Value} {w : World} {R : Value → World → Prop} (h : Rows P row args w R) : RowsIn (Fence.wide.inRound l) n P row args w R := fun c cs _ =>
  let ⟨v, w', r, s⟩ := h c cs
  ⟨v, w', r, stepsIn_wide.2 s⟩
theorem wpIn_of_wp {o : Oper} {a : Act} {w : World} {K : Act → World → Prop} (ho : ∀ c, o.op ≠ .defer c) (h : o.wp P a w K Q) : o.wpIn (Fence.wide.inRound l) n P a w K Q := by
  unfold Oper.wpIn
  refine ⟨fun _ _ => trivial, ?_⟩
  rw [Oper.semAt_plain _ _ _ ho]
  unfold Oper.wp at h
  generalize (execOp a.eval o).run P w = r at h
  have hd : (Fence.wide.inRound l).depth.isSome = true → 1 ≤ n := fun q => by simp [Fence.inRound, Fence.wide] at q
  cases r with
  | ok x w' =>
    cases x with
    | value v => exact h
    | skip => exact h
    | defer d => exact h
    | enter f args => exact ⟨hd, CallsIn.inRound l (callsIn_wide.2 h)⟩
    | row row args => exact ⟨hd, rowsIn_of h⟩
    | _ => exact h.elim
  | halt x w' =>
    cases x with
    | panic v => exact h
    | _ => exact h.elim
theorem wpOpIn_of {i : Nat} {K K' : Act → World → Prop} {a : Act} {w : World} (hno : ∀ a w, ¬ Q .outgrown a w) (hd : ∀ (i : Nat) (o : Oper), ops[i]? = some o → ∀ c, o.op ≠ .defer c) (hk : ∀ a w, K a w → K' a w) (h : wpOp P ops Q i K a w) : wpOpIn (Fence.wide.inRound l) n P ops Q i K' a w := by
  unfold wpOp at h
  unfold wpOpIn
  cases q : ops[i]? with
  | none => rw [q] at h; exact hk _ _ h
  | some o =>
    rw [q] at h
    dsimp only at h ⊢
    split
    · rename_i hw
      rw [if_pos hw] at h
      rcases h with h | ⟨_, a', w', h⟩
      · exact Oper.wpIn_mono hk (wpIn_of_wp (hd i o q) h)
      · exact (hno _ _ h).elim
    · rename_i hw
      rw [if_neg hw] at h
      exact ⟨fun _ _ => trivial, hk _ _ h⟩
theorem wpAnyIn_of (hno : ∀ a w, ¬ Q .outgrown a w) (hd : ∀ (i : Nat) (o : Oper), ops[i]? = some o → ∀ c, o.op ≠ .defer c) : ∀ (fuel : Nat) (listed : Array Bool) (a : Act) (w : World), wpAny P md ops Q fuel listed a w → wpAnyIn (Fence.wide.inRound l) n P md ops Q fuel listed a w
  | 0, _, _, _, h => h
  | fuel + 1, _, _, _, h => ⟨h.1, fun i hi => wpOpIn_of hno hd (fun a' w' q => wpAnyIn_of hno hd fuel _ a' w' q) (h.2 i hi)⟩
/-- no operation defers -/
def noDefer (ops : Array Oper) : Bool := ops.all fun o => match o.op with
  | .defer _ => false
  | _ => true
theorem noDefer_spec (h : noDefer ops = true) : ∀ (i : Nat) (o : Oper), ops[i]? = some o → ∀ c, o.op ≠ .defer c := by
  intro i o hi c hc
  unfold noDefer at h
  rw [Array.all_eq_true] at h
  obtain ⟨hl, he⟩ := Array.getElem?_eq_some_iff.1 hi
  have := h i hl
  rw [he, hc] at this
  cases this
/-- a region of a round that draws its order: by the plain laws, what S holds of being taken first -/
theorem wpIn_round_held {S : World → Prop} {id : Nat} {a : Act} {w : World} (hm : P.follows .mixedOrders = true) (hd : noDefer ops = true) (hno : ∀ a w, ¬ Q .outgrown a w)
    (h : wpAnyH P .any ops Q S ops.size (Array.replicate ops.size false) a w.drew) : (Code.region id ops true).wpIn (Fence.wide.inRound l) n P Q a w :=
  wpIn_region_any hm (wpAnyIn_of hno (noDefer_spec hd) _ _ _ _ (wpAny_of_held _ _ _ _ h))
end
end Go.Proofs.Ytfahoomkpammiaa
namespace Go.Proofs.Ytfahoomkpammiaa
open Go.RowKit Go.MapKept Go.Shelf Go.Proofs.YtfahoomkpammiaaW.PrintWords Go.Proofs.YtfahoomkpammiaaW.PrintLast Go.Proofs.YtfahoomkpammiaaW.PrintMore Go.Proofs.Ytfahoomkpammiaa.PHistOrders
abbrev KS := List Int × List (List Int)
/-- the call k stands ahead of the call i -/
def kput (i : Nat) (st : KS) (k : Nat) : KS := (st.1.set i (wrap64 (st.1.getD i 0 + 1)), st.2.set k (st.2.getD k [] ++ [(i : Int)]))
def kputs (i : Nat) {n : Nat} (st : KS) (l : List (Nth n)) : KS := l.foldl (fun s k => kput i s k.1) st
/-- behind i rounds of the first loop -/
def pst (cs : List S70) (mk : Mk) : Nat → KS
  | 0 => (List.replicate cs.length 0, List.replicate cs.length [])
  | i + 1 => kputs i (pst cs mk i) (aheadTo cs mk cs.length i cs.length (Nat.le_refl _))
theorem kputs_snoc (i : Nat) {n : Nat} (st : KS) (l : List (Nth n)) (k : Nth n) : kputs i st (l ++ [k]) = kput i (kputs i st l) k.1 := by unfold kputs; rw [List.foldl_append]; rfl
theorem kputs_len (i : Nat) {n : Nat} (st : KS) : ∀ (l : List (Nth n)), (kputs i st l).1.length = st.1.length ∧ (kputs i st l).2.length = st.2.length := by
  intro l
  unfold kputs
  induction l generalizing st with
  | nil => exact ⟨rfl, rfl⟩
  | cons k l ih =>
    rw [List.foldl_cons]
    have := ih (kput i st k.1)
    simpa [kput] using this
theorem pst_len (cs : List S70) (mk : Mk) : ∀ i, (pst cs mk i).1.length = cs.length ∧ (pst cs mk i).2.length = cs.length := by
  intro i
  induction i with
  | zero => exact ⟨by simp [pst], by simp [pst]⟩
  | succ i ih =>
    have := kputs_len i (pst cs mk i) (aheadTo cs mk cs.length i cs.length (Nat.le_refl _))
    exact ⟨this.1.trans ih.1, this.2.trans ih.2⟩
theorem kputs_bound (i : Nat) {n : Nat} (st : KS) (l : List (Nth n)) (k : Nat) : ((kputs i st l).2.getD k []).length ≤ (st.2.getD k []).length + l.length := by
  unfold kputs
  induction l generalizing st with
  | nil => simp
  | cons a l ih =>
    rw [List.foldl_cons]
    have h1 := ih (kput i st a.1)
    have h2 : ((kput i st a.1).2.getD k []).length ≤ (st.2.getD k []).length + 1 := by
      unfold kput
      simp only [List.getD_eq_getElem?_getD, List.getElem?_set]
      split
      · rename_i e
        subst e
        split
        · simp
        · simp
      · omega
    rw [List.length_cons]
    omega
theorem pst_bound (cs : List S70) (mk : Mk) (i k : Nat) : ((pst cs mk i).2.getD k []).length ≤ i * cs.length := by
  induction i with
  | zero => simp only [pst, List.getD_eq_getElem?_getD, List.getElem?_replicate]; split <;> simp
  | succ i ih =>
    have h1 := kputs_bound i (pst cs mk i) (aheadTo cs mk cs.length i cs.length (Nat.le_refl _)) k
    have h2 := aheadTo_len cs mk cs.length i cs.length (Nat.le_refl _)
    have h3 : (pst cs mk (i + 1)).2 = (kputs i (pst cs mk i) (aheadTo cs mk cs.length i cs.length (Nat.le_refl _))).2 := rfl
    rw [h3, Nat.succ_mul]
    omega
/-- what is called when Order ends: nothing; the blocks are shut -/
def Marks (W : World) (N : Nat) (ds : List Deferred) : Prop := ∃ Ds : List Nat, ds = Ds.map (fun D => { target := .collected D, args := #[] }) ∧ Ds.Nodup ∧ ∀ D ∈ Ds, N + 4 ≤ D ∧ W.heap[D]? = some (.deferred (some []))
theorem Marks.nil (W : World) (N : Nat) : Marks W N [] := ⟨[], rfl, List.nodup_nil, fun D h => by cases h⟩
theorem Marks.keep {W W1 : World} {N : Nat} {ds : List Deferred} (h : Marks W N ds) (hk : ∀ b, b < W.heap.size → (∃ o : Obj, W.heap[b]? = some o ∧ o.isCells = false) → W1.heap[b]? = W.heap[b]?) : Marks W1 N ds := by
  obtain ⟨Ds, h1, h2, h3⟩ := h
  exact ⟨Ds, h1, h2, fun D hD => ⟨(h3 D hD).1, (hk D (blk_lt (h3 D hD).2) ⟨_, (h3 D hD).2, rfl⟩).trans (h3 D hD).2⟩⟩
theorem Marks.lt {W : World} {N D : Nat} {ds : List Deferred} (h : Marks W N ds) (hD : { target := .collected D, args := #[] } ∈ ds) : D < W.heap.size := by
  obtain ⟨Ds, rfl, _, h3⟩ := h
  obtain ⟨D', q, e⟩ := List.mem_map.1 hD
  injection e with e _
  injection e with e
  subst e
  exact blk_lt (h3 _ q).2
theorem Marks.cons {W W1 : World} {N D : Nat} {ds : List Deferred} (h : Marks W N ds) (hk : Marks W1 N ds) (hD : W.heap.size ≤ D) (hN : N + 4 ≤ D) (h1 : W1.heap[D]? = some (.deferred (some []))) : Marks W1 N ({ target := .collected D, args := #[] } :: ds) := by
  obtain ⟨Ds, e, h2, h3⟩ := hk
  obtain ⟨Ds', e', h2', h3'⟩ := h
  have : Ds' = Ds := by
    rw [e] at e'
    have hinj : ∀ (l l' : List Nat), l.map (fun D => ({ target := .collected D, args := #[] } : Deferred)) = l'.map (fun D => { target := .collected D, args := #[] }) → l = l' := by
      intro l
      induction l with
      | nil => intro l' q; cases l' with
        | nil => rfl
        | cons a l' => cases q
      | cons a l ih => intro l' q; cases l' with
        | nil => cases q
        | cons b l' =>
          simp only [List.map_cons, List.cons.injEq] at q
          obtain ⟨q1, q2⟩ := q
          injection q1 with q1 _
          injection q1 with q1
          rw [q1, ih l' q2]
    exact (hinj _ _ e').symm
  subst this
  refine ⟨D :: Ds', by rw [e]; rfl, List.nodup_cons.2 ⟨fun q => ?_, h2⟩, fun D' hD' => ?_⟩
  · have := blk_lt (h3' D q).2
    omega
  · rcases List.mem_cons.1 hD' with rfl | q
    · exact ⟨hN, h1⟩
    · exact h3 D' q
/-- ahead of the i-th round of the first loop -/
structure L1 (N : Nat) (w2 W : World) (cs : List S70) (mk : Mk) (i : Nat) (ds : List Deferred) : Prop where
  mem : KMem W N (pst cs mk i).1 (pst cs mk i).2 (fun b => N + 4 ≤ b)
  below : Below N w2 W
  marks : Marks W N ds
/-- between two rounds over behind, in the i-th round; x: where i is boxed -/
def I1 (N : Nat) (w2 : World) (cs : List S70) (mk : Mk) (i x : Nat) (ds : List Deferred) (pre : List (Nth cs.length)) (W : World) : Prop :=
  KMem W N (kputs i (pst cs mk i) pre).1 (kputs i (pst cs mk i) pre).2 (fun b => N + 4 ≤ b ∧ (b < x ∨ x + 4 ≤ b)) ∧ W.heap[x]? = some (.cells #[.int .i64 (i : Int)] 3 (0, 0)) ∧ Below N w2 W ∧ Marks W N ds ∧ x + 4 ≤ W.heap.size
theorem I1_own (N : Nat) (w2 : World) (cs : List S70) (mk : Mk) (i x : Nat) (ds : List Deferred) (w3 : World) (hN : N ≤ w3.heap.size) (hN2 : N ≤ w2.heap.size) (hm : ∀ D, { target := .collected D, args := #[] } ∈ ds → D < w3.heap.size) : OwnFrom w3.heap.size (I1 N w2 cs mk i x ds) := by
  rintro s W W' row ⟨h1, h2, h3, h4, h5⟩ hg hr
  have hcell : ∀ b, b < W.heap.size → (∃ o : Obj, W.heap[b]? = some o ∧ o.isCells = true) → W'.heap[b]? = W.heap[b]? := fun b hb ⟨o, ho, hc⟩ => hg.block b hb (fun e => by
    obtain ⟨_, o', ho', hc'⟩ := hr b e.symm
    rw [ho] at ho'
    cases ho'
    rw [hc] at hc'
    cases hc')
  refine ⟨h1.keep fun b _ hb hc => hcell b hb hc, (hcell x (blk_lt h2) ⟨_, h2, rfl⟩).trans h2, ?_, ?_, Nat.le_trans h5 hg.size⟩
  · exact h3.trans ⟨hg.os, hg.tape, hg.output, hg.size, fun b hb => by
      rcases Nat.lt_or_ge b W.heap.size with q | q
      · exact hg.block b q (fun e => by have := (hr b e.symm).1; omega)
      · have := h3.size; omega⟩
  · obtain ⟨Ds, e, hn, hD⟩ := h4
    refine ⟨Ds, e, hn, fun D q => ⟨(hD D q).1, (hg.block D (blk_lt (hD D q).2) (fun e2 => ?_)).trans (hD D q).2⟩⟩
    have := (hr D e2.symm).1
    have := hm D (by rw [e]; exact List.mem_map.2 ⟨D, q, rfl⟩)
    omega
theorem I1_next {N : Nat} {w2 : World} {cs : List S70} {mk : Mk} {i x : Nat} {ds : List Deferred} {pre : List (Nth cs.length)} {W W1 w9 : World} {y : Nth cs.length} (hI : I1 N w2 cs mk i x ds pre W) (hN : N = w2.heap.size) (hx : N + 4 ≤ x) {ws : List Int} {bs : List (List Int)} (hws : ws = (kputs i (pst cs mk i) pre).1) (hbs : bs = (kputs i (pst cs mk i) pre).2)
    {vs : List Value} (hR : RowsAt (W.setCell ⟨N, i, none⟩ (.int .i64 (wrap64 (ws.getD i 0 + 1)))) (N + 2) bs (fun b => N + 4 ≤ b ∧ (b < x ∨ x + 4 ≤ b)) vs) {v : Value} (hv : vs[y.1]? = some v) {l : List Int} (hl : l = bs.getD y.1 [])
    (hb1 : Below (W.setCell ⟨N, i, none⟩ (.int .i64 (wrap64 (ws.getD i 0 + 1)))).heap.size (W.setCell ⟨N, i, none⟩ (.int .i64 (wrap64 (ws.getD i 0 + 1)))) W1) (hk1 : KeepsOthers (W.setCell ⟨N, i, none⟩ (.int .i64 (wrap64 (ws.getD i 0 + 1)))) W1)
    (hg : W1.grownBy w9 v.ownBlock) {A : Option Addr} {C : Nat} (ho : w9.ownsRow 0 3 1 (.slice A (l.length + 1) C) (l.length + 1) (i64s l ++ [.int .i64 (i : Int)])) (hA : A.map Addr.block = v.ownBlock ∨ A.map Addr.block = some W1.heap.size) (B : Nat) :
    KeepsFrom B W (w9.setCell ⟨N + 2, y.1, none⟩ (.slice A (l.length + 1) C)) ∧ Kp w2.heap.size (x + 1) W (w9.setCell ⟨N + 2, y.1, none⟩ (.slice A (l.length + 1) C)) ∧ I1 N w2 cs mk i x ds (pre ++ [y]) (w9.setCell ⟨N + 2, y.1, none⟩ (.slice A (l.length + 1) C)) := by
  obtain ⟨V, hV⟩ : ∃ V, V = W.setCell ⟨N, i, none⟩ (.int .i64 (wrap64 (ws.getD i 0 + 1))) := ⟨_, rfl⟩
  rw [← hV] at hR hb1 hk1
  obtain ⟨m1, m2, m3, m4, m5⟩ := hI
  rw [← hws, ← hbs] at m1
  have hK := m1.setW i (wrap64 (ws.getD i 0 + 1))
  rw [← hV] at hK
  have hVs : V.heap.size = W.heap.size := by rw [hV]; simp [World.setCell]
  have hVW : ∀ b, b ≠ N → V.heap[b]? = W.heap[b]? := fun b hb => by rw [hV]; exact Below.heap_setCell W ⟨N, i, none⟩ _ b hb
  have hlen : (l ++ [(i : Int)]).length = l.length + 1 := by simp
  obtain ⟨k1, k2⟩ := hK.app (l := l ++ [(i : Int)]) hR hv hb1 hg (A := A) (C := C) (by rw [hlen]; simpa [i64s] using ho) hA
  rw [hlen] at k1 k2
  have hW9 : W.heap.size ≤ w9.heap.size := by have := hb1.size; have := hg.size; omega
  have hcell : ∀ (j : Nat) (o : Obj), v.ownBlock = some j → W1.heap[j]? = some o → o.isCells = true := fun j o e ho' => by
    have hkl : y.1 < bs.length := by rw [← hR.len]; exact (List.getElem?_eq_some_iff.1 hv).1
    obtain ⟨cells, hc⟩ := own_typed (hR.row _ _ _ hv (List.getElem?_eq_getElem hkl)) j e
    rw [hb1.block j (blk_lt hc), hc] at ho'
    cases ho'
    rfl
  have hko : KeepsOthers W (w9.setCell ⟨N + 2, y.1, none⟩ (.slice A (l.length + 1) C)) := (((by rw [hV]; exact KeepsOthers.setCell _ _ _ : KeepsOthers W V).trans hk1).trans (KeepsOthers.of_grownBy hg hcell)).trans (KeepsOthers.setCell _ _ _)
  have hos : (w9.setCell ⟨N + 2, y.1, none⟩ (.slice A (l.length + 1) C)).os = W.os ∧ (w9.setCell ⟨N + 2, y.1, none⟩ (.slice A (l.length + 1) C)).tape = W.tape ∧ (w9.setCell ⟨N + 2, y.1, none⟩ (.slice A (l.length + 1) C)).output = W.output := by
    refine ⟨hg.os.trans (hb1.os.trans (by rw [hV]; rfl)), hg.tape.trans (hb1.tape.trans (by rw [hV]; rfl)), hg.output.trans (hb1.output.trans (by rw [hV]; rfl))⟩
  have hsz : W.heap.size ≤ (w9.setCell ⟨N + 2, y.1, none⟩ (.slice A (l.length + 1) C)).heap.size := by simpa [World.setCell] using hW9
  have hblk : ∀ b, b < W.heap.size → b ≠ N → b ≠ N + 2 → ¬ (N + 4 ≤ b ∧ (b < x ∨ x + 4 ≤ b)) → (w9.setCell ⟨N + 2, y.1, none⟩ (.slice A (l.length + 1) C)).heap[b]? = W.heap[b]? := fun b h1 h2 h3 h4 => (k2 b h3 h4 (by omega)).trans (hVW b h2)
  refine ⟨hko.from B, ⟨hos.1, hos.2.1, hos.2.2, hsz, fun b hb hn => ?_⟩, ?_, ?_, ?_, ?_, by omega⟩
  · have hkb : KeepB w2.heap.size (x + 1) b := Classical.byContradiction fun q => hn q
    unfold KeepB at hkb
    exact hblk b hb (by omega) (by omega) (by omega)
  · rw [kputs_snoc]
    show KMem _ N (kput i (kputs i (pst cs mk i) pre) y.1).1 (kput i (kputs i (pst cs mk i) pre) y.1).2 _
    unfold kput
    rw [← hws, ← hbs, ← hl]
    exact k1.ok (fun b hb _ => by rcases hb with q | q; exact q; omega) fun b q => q.1
  · exact (hblk x (blk_lt m2) (by omega) (by omega) (by omega)).trans m2
  · exact m3.trans ⟨hos.1, hos.2.1, hos.2.2, hsz, fun b hb => by
      rcases Nat.lt_or_ge b W.heap.size with q | q
      · exact hblk b q (by omega) (by omega) (by omega)
      · have := m3.size; omega⟩
  · exact m4.keep fun b hb ⟨o, h1, h2⟩ => (hko.same b o h1 h2).trans h1.symm
/-! ### the second loop -/
def dec1 (ws : List Int) (k : Int) : List Int := ws.set k.toNat (wrap64 (ws.getD k.toNat 0 - 1))
def kstep (bs : List (List Int)) (st : List Nat × List Int) : Option (List Nat × List Int) :=
  (idx st.2 0).map fun i => (st.1 ++ [i], (bs.getD i []).foldl dec1 (st.2.set i (-1)))
/-- behind j rounds of the second loop -/
def kat (bs : List (List Int)) (ws : List Int) : Nat → Option (List Nat × List Int)
  | 0 => some ([], ws)
  | j + 1 => (kat bs ws j).bind (kstep bs)
theorem kat_none {bs : List (List Int)} {ws : List Int} {i : Nat} (h : kat bs ws i = none) : ∀ j, i ≤ j → kat bs ws j = none := by
  intro j hij
  induction hij with
  | refl => exact h
  | @step j hij ih => show (kat bs ws j).bind _ = none; rw [ih]; rfl
theorem dec_len (l : List Int) : ∀ ws : List Int, (l.foldl dec1 ws).length = ws.length := by
  induction l with
  | nil => intro ws; rfl
  | cons a l ih => intro ws; rw [List.foldl_cons, ih]; simp [dec1]
theorem kat_len {bs : List (List Int)} {ws : List Int} : ∀ (j : Nat) (st : List Nat × List Int), kat bs ws j = some st → st.1.length = j ∧ st.2.length = ws.length ∧ ∀ i ∈ st.1, i < ws.length := by
  intro j
  induction j with
  | zero => intro st h; cases h; exact ⟨rfl, rfl, fun i q => by cases q⟩
  | succ j ih =>
    intro st h
    obtain ⟨s1, h1, h2⟩ := Option.bind_eq_some_iff.1 h
    obtain ⟨a1, a2, a3⟩ := ih s1 h1
    unfold kstep at h2
    obtain ⟨i, hi, rfl⟩ := Option.map_eq_some_iff.1 h2
    have hlt := (idx_some hi).1
    refine ⟨by simp [a1], by rw [dec_len]; simpa using a2, fun q hq => ?_⟩
    rcases List.mem_append.1 hq with q1 | q1
    · exact a3 q q1
    · obtain rfl := List.mem_singleton.1 q1
      omega
/-- the order of a book's calls -/
def ordB (cs : List S70) (mk : Mk) : Option (List Nat) := (kat (pst cs mk cs.length).2 (pst cs mk cs.length).1 cs.length).map (·.1)
theorem ordB_none {cs : List S70} {mk : Mk} {j : Nat} (hj : j < cs.length) {st : List Nat × List Int} (h : kat (pst cs mk cs.length).2 (pst cs mk cs.length).1 j = some st) (hn : idx st.2 0 = none) : ordB cs mk = none := by
  unfold ordB
  rw [kat_none (i := j + 1) (by show (kat _ _ j).bind _ = none; rw [h]; show kstep _ st = none; unfold kstep; rw [hn]; rfl) cs.length (by omega)]
  rfl
def inR (n : Nat) (bs : List (List Int)) : Prop := ∀ (k : Nat), ∀ x ∈ bs.getD k [], 0 ≤ x ∧ x < (n : Int)
theorem kputs_inR {i n : Nat} (hi : i < n) {m : Nat} (st : KS) (h : inR n st.2) (l : List (Nth m)) : inR n (kputs i st l).2 := by
  unfold kputs
  induction l generalizing st with
  | nil => exact h
  | cons a l ih =>
    rw [List.foldl_cons]
    refine ih (kput i st a.1) fun k x hx => ?_
    unfold kput at hx
    simp only [List.getD_eq_getElem?_getD, List.getElem?_set] at hx
    split at hx
    · rename_i e
      subst e
      split at hx
      · simp only [Option.getD_some, List.mem_append, List.mem_singleton] at hx
        rcases hx with hx | rfl
        · exact h a.1 x (by simpa [List.getD_eq_getElem?_getD] using hx)
        · omega
      · simp at hx
    · exact h k x (by simpa [List.getD_eq_getElem?_getD] using hx)
theorem pst_inR (cs : List S70) (mk : Mk) : ∀ i, i ≤ cs.length → inR cs.length (pst cs mk i).2 := by
  intro i
  induction i with
  | zero =>
    intro _ k x hx
    simp only [pst, List.getD_eq_getElem?_getD, List.getElem?_replicate] at hx
    split at hx <;> simp at hx
  | succ i ih =>
    intro hi
    exact kputs_inR (by omega) _ (ih (by omega)) _
/-- ahead of a round of the second loop; wE: behind the first one -/
structure K2 (N : Nat) (w2 wE W : World) (ws : List Int) (bs : List (List Int)) (out : List Int) (v : Value) (ds : List Deferred) : Prop where
  mem : KMem W N ws bs (fun b => N + 4 ≤ b ∧ b < wE.heap.size)
  row : W.ownsRow wE.heap.size 3 1 v out.length (i64s out)
  below : Below N w2 W
  marks : Marks W N ds
  size : wE.heap.size ≤ W.heap.size
theorem K2.of {N : Nat} {w2 wE W W1 : World} {ws : List Int} {bs : List (List Int)} {out : List Int} {v : Value} {ds : List Deferred} (h : K2 N w2 wE W ws bs out v ds) (hb : Below W.heap.size W W1) (hN : N ≤ W.heap.size) : K2 N w2 wE W1 ws bs out v ds := by
  refine ⟨h.mem.keep fun b _ hb1 _ => hb.block b hb1, ?_, h.below.trans (hb.mono hN), h.marks.keep fun b hb1 _ => hb.block b hb1, Nat.le_trans h.size hb.size⟩
  refine ⟨h.row.1, ?_⟩
  rcases h.row.2 with hh | ⟨g, cap, cur, rfl, h1, hgg, rest⟩
  · exact .inl hh
  · refine .inr ⟨g, cap, cur, rfl, h1, ?_, rest⟩
    rw [hb.block g (blk_lt hgg)]
    exact hgg
theorem K2.setW {N : Nat} {w2 wE W : World} {ws : List Int} {bs : List (List Int)} {out : List Int} {v : Value} {ds : List Deferred} (h : K2 N w2 wE W ws bs out v ds) (hE : N < wE.heap.size) (i : Nat) (x : Int) : K2 N w2 wE (W.setCell ⟨N, i, none⟩ (.int .i64 x)) (ws.set i x) bs out v ds := by
  refine ⟨h.mem.setW i x, own_far h.row (fun e => ?_) _, ?_, h.marks.keep fun b hb ⟨o, h1, h2⟩ => ((KeepsOthers.setCell W ⟨N, i, none⟩ (.int .i64 x)).same b o h1 h2).trans h1.symm, by simpa [World.setCell] using h.size⟩
  · have := (h.row.lt _ e).1
    simp at this
    omega
  · refine h.below.trans ⟨rfl, rfl, rfl, by simp [World.setCell], fun b hb => Below.heap_setCell W ⟨N, i, none⟩ _ b (by simp; omega)⟩
theorem K2.app {N : Nat} {w2 wE W W1 W2 : World} {ws : List Int} {bs : List (List Int)} {out : List Int} {v : Value} {ds : List Deferred} (h : K2 N w2 wE W ws bs out v ds) (hE : N + 4 ≤ wE.heap.size) (hb : Below W.heap.size W W1) (hg : W1.grownBy W2 v.ownBlock) {x : Int} {A : Option Addr} {C : Nat} (ho : W2.ownsRow wE.heap.size 3 1 (.slice A (out.length + 1) C) (out.length + 1) (i64s out ++ [.int .i64 x])) :
    K2 N w2 wE W2 ws bs (out ++ [x]) (.slice A (out.length + 1) C) ds := by
  have h1 := h.of hb (by have := h.size; omega)
  have hrow : ∀ g, v.ownBlock = some g → wE.heap.size ≤ g := fun g e => (h.row.lt g e).1
  have hst : ∀ b, b < W1.heap.size → (∀ g, v.ownBlock = some g → b ≠ g) → W2.heap[b]? = W1.heap[b]? := fun b hb hn => hg.block b hb fun e => hn b e.symm rfl
  refine ⟨h1.mem.keep fun b hb1 hb2 _ => hst b hb2 fun g e => ?_, by simpa [i64s] using ho, h1.below.trans ⟨hg.os, hg.tape, hg.output, hg.size, fun b hb1 => ?_⟩, h1.marks.keep fun b hb1 ⟨o, q1, q2⟩ => hst b hb1 fun g e => ?_, Nat.le_trans h1.size hg.size⟩
  · have := hrow g e
    rcases hb1 with q | q <;> omega
  · rcases Nat.lt_or_ge b W1.heap.size with q | q
    · exact hst b q fun g e => by have := hrow g e; omega
    · have := h1.size; omega
  · rintro rfl
    obtain ⟨cells, hc⟩ := own_typed h1.row b e
    rw [hc] at q1
    cases q1
    cases q2
theorem KMem.reads {W : World} {N : Nat} {ws : List Int} {bs : List (List Int)} {ok : Nat → Prop} (h : KMem W N ws bs ok) (hl : ws.length ≤ 9223372036854775807) : Kd.C (Kd.int .i64) W (some ⟨N, 0, none⟩) ws.length ws := by
  refine ⟨rfl, hl, fun _ => ⟨⟨N, 0, none⟩, rfl, fun j p hp => ⟨[.int .i64 p], rfl, rfl, fun i u hu => ?_⟩⟩⟩
  rcases i with _ | i
  · cases hu
    have hj := blk_cell h.g8 (i := j) (show (i64s ws).toArray[j]? = some (.int .i64 p) by simp [i64s, hp])
    show W.cell? ((⟨N, 0, none⟩ : Addr).add (j * 1 + 0)) = _
    rw [Addr.add_lit, Nat.zero_add, Nat.mul_one, Nat.add_zero]
    exact hj
  · cases hu
/-! ### what Order answers -/
open Classical in
/-- the calls of a history, where it is one -/
noncomputable def readB (l0 : List S45) : Option (List S70) := (rat l0 l0.length).bind fun s => if (∀ k, s.opn k = none) ∧ s.calls.length ≤ 64 then some s.calls else none
theorem readB_none {l0 : List S45} (h : rat l0 l0.length = none) : readB l0 = none := by unfold readB; rw [h]; rfl
theorem readB_no {l0 : List S45} {s : RS} (h : rat l0 l0.length = some s) (hn : ¬ ((∀ k, s.opn k = none) ∧ s.calls.length ≤ 64)) : readB l0 = none := by
  unfold readB
  rw [h]
  exact if_neg hn
theorem readB_yes {l0 : List S45} {s : RS} (h : rat l0 l0.length = some s) (hn : (∀ k, s.opn k = none) ∧ s.calls.length ≤ 64) : readB l0 = some s.calls := by
  unfold readB
  rw [h]
  exact if_pos hn
def froms (cs : List S70) (os : List Nat) : List Int := os.map fun i : Nat => (rd_T70 cs i).f0
noncomputable def ordP (l0 : List S45) : Option (Option (List Int)) := (readB l0).map fun cs => (madeB cs).bind fun mk => (ordB cs mk).map (froms cs)
/-- what Order answers, for what -/
def OrdIs (w : World) (base : Nat) (v : Value) (b : Bool) (x : Int) : Option (Option (List Int)) → Prop
  | none => v = .slice none 0 0 ∧ b = false ∧ x = 230
  | some none => v = .slice none 0 0 ∧ b = false ∧ x = 0
  | some (some l) => w.ownsRow base 3 1 v l.length (i64s l) ∧ b = true ∧ x = 0
def OrdPost (w : World) (l0 : List S45) (e : Ending) (w' : World) : Prop := ∃ v b x, e = .returned (.tuple #[v, .bool b, .int .i64 x]) ∧ Below w.heap.size w w' ∧ OrdIs w' w.heap.size v b x (ordP l0)
theorem OrdPost.refused {w w' : World} {l0 : List S45} (h : readB l0 = none) (hb : Below w.heap.size w w') : OrdPost w l0 (.returned (.tuple #[.slice none 0 0, .bool false, .int .i64 230])) w' := ⟨_, _, _, rfl, hb, by unfold ordP; rw [h]; exact ⟨rfl, rfl, rfl⟩⟩
theorem OrdPost.none1 {w w' : World} {l0 : List S45} {cs : List S70} (h : readB l0 = some cs) (hm : madeB cs = none) (hb : Below w.heap.size w w') : OrdPost w l0 (.returned (.tuple #[.slice none 0 0, .bool false, .int .i64 0])) w' := ⟨_, _, _, rfl, hb, by unfold ordP; rw [h]; simp only [Option.map_some, hm, Option.bind_none]; exact ⟨rfl, rfl, rfl⟩⟩
theorem OrdPost.none2 {w w' : World} {l0 : List S45} {cs : List S70} {mk : Mk} (h : readB l0 = some cs) (hm : madeB cs = some mk) (ho : ordB cs mk = none) (hb : Below w.heap.size w w') : OrdPost w l0 (.returned (.tuple #[.slice none 0 0, .bool false, .int .i64 0])) w' := ⟨_, _, _, rfl, hb, by unfold ordP; rw [h]; simp only [Option.map_some, hm, Option.bind_some, ho, Option.map_none]; exact ⟨rfl, rfl, rfl⟩⟩
theorem OrdPost.yes {w w' : World} {l0 : List S45} {cs : List S70} {mk : Mk} {os : List Nat} {v : Value} (h : readB l0 = some cs) (hm : madeB cs = some mk) (ho : ordB cs mk = some os) (hb : Below w.heap.size w w') (hr : w'.ownsRow w.heap.size 3 1 v (froms cs os).length (i64s (froms cs os))) : OrdPost w l0 (.returned (.tuple #[v, .bool true, .int .i64 0])) w' := ⟨_, _, _, rfl, hb, by unfold ordP; rw [h]; simp only [Option.map_some, hm, Option.bind_some, ho]; exact ⟨hr, rfl, rfl⟩⟩
/-- a call that ended has as many values as keys, where it is a Snapshot -/
theorem ends_lens {o : S40} {r : S43} (hl : r.f2.length ≤ 9223372036854775807) (h : endsB o r = true) (h1 : o.f0 ≠ 1) (h2 : o.f0 ≠ 2) : r.f2.length = r.f3.length := by
  have hs := ends_some o r hl
  rw [h] at hs
  have hh := ends_loop r hl (r.f2.length + 1) 0 (Nat.zero_le _) (by omega)
  unfold hist_ends.f at hs
  have hz : ((0 : Nat) : Int) = 0 := rfl
  rw [hz] at hh
  simp only [h1, h2, if_false, hh] at hs
  have : (ascFrom r.f2 0 && tailB r) = true := by
    first
      | exact Option.some.inj hs
      | (split at hs <;> first | exact Option.some.inj hs | (exfalso; omega) | (split at hs <;> first | exact Option.some.inj hs | (exfalso; omega)))
  rw [Bool.and_eq_true] at this
  have ht := this.2
  unfold tailB at ht
  simp only [Bool.and_eq_true, decide_eq_true_eq] at ht
  exact ht.2.2
def lensOk (cs : List S70) : Prop := ∀ i, i < cs.length → (rd_T70 cs i).f2.f0 ≠ 1 → (rd_T70 cs i).f2.f0 ≠ 2 → (rd_T70 cs i).f3.f2.length = (rd_T70 cs i).f3.f3.length
theorem rd_app {cs : List S70} {c : S70} {i : Nat} (hi : i < cs.length + 1) : rd_T70 (cs ++ [c]) i = if i < cs.length then rd_T70 cs i else c := by
  unfold rd_T70
  simp only [Int.toNat_natCast, List.getD_eq_getElem?_getD]
  split
  · rename_i h
    rw [List.getElem?_append_left h]
  · rename_i h
    obtain rfl : i = cs.length := by omega
    simp
theorem rd_set {cs : List S70} {c : S70} {i n : Nat} (hn : n < cs.length) : rd_T70 (cs.set n c) i = if i = n then c else rd_T70 cs i := by
  unfold rd_T70
  simp only [Int.toNat_natCast, List.getD_eq_getElem?_getD, List.getElem?_set]
  split
  · rename_i h
    subst h
    simp
  · rename_i h
    rw [if_neg (fun q => h q.symm)]
theorem rat_lens {l0 : List S45} (hl : ∀ m ∈ l0, m.f3.f2.length ≤ 9223372036854775807) : ∀ (i : Nat) (s : RS), i ≤ l0.length → rat l0 i = some s → lensOk s.calls := by
  intro i
  induction i with
  | zero => intro s _ h; cases h; intro j hj; simp at hj
  | succ i ih =>
    intro s hi h
    have hm := List.getElem?_eq_getElem (show i < l0.length by omega)
    rw [rat_succ l0 i _ hm] at h
    obtain ⟨s1, h1, h2⟩ := Option.bind_eq_some_iff.1 h
    have hok := ih s1 (by omega) h1
    have hop := rat_opn i s1 (by omega) h1
    unfold rstep at h2
    split at h2
    · split at h2
      · obtain rfl := Option.some.inj h2
        intro j hj a1 a2
        simp only [List.length_append, List.length_singleton] at hj
        rw [rd_app hj] at a1 a2 ⊢
        split at a1
        · rename_i q
          rw [if_pos q] at a2 ⊢
          exact hok j q a1 a2
        · rename_i q
          rw [if_neg q]
          rfl
      · cases h2
    · split at h2
      · cases h2
      · rename_i n hn
        split at h2
        · rename_i hq
          obtain rfl := Option.some.inj h2
          intro j hj a1 a2
          simp only [List.length_set] at hj
          have hnl := hop _ _ hn
          rw [rd_set hnl] at a1 a2 ⊢
          split at a1
          · rename_i q
            rw [if_pos q] at a2 ⊢
            rw [hq.1.1] at a1 a2
            exact ends_lens (hl _ (List.getElem_mem _)) hq.2 a1 a2
          · rename_i q
            rw [if_neg q] at a2 ⊢
            exact hok j hj a1 a2
        · cases h2
theorem own_marks {W W' : World} {base base' n N : Nat} {e : TypeId} {v : Value} {xs : List Value} (h : W.ownsRow base e 1 v n xs) (ho : Only W W' (fun b => N + 4 ≤ b ∧ ∃ o : Obj, W.heap[b]? = some o ∧ o.isCells = false)) (hb : base' ≤ base) : W'.ownsRow base' e 1 v n xs := by
  refine ⟨h.1, ?_⟩
  rcases h.2 with hh | ⟨g, cap, cur, rfl, h1, hgg, rest⟩
  · exact .inl hh
  · refine .inr ⟨g, cap, cur, rfl, by omega, ?_, rest⟩
    rw [ho.block g (blk_lt hgg) (fun q => by
      obtain ⟨_, o, q1, q2⟩ := q
      rw [hgg] at q1
      cases q1
      cases q2)]
    exact hgg
/-- Order's blocks are shut, one by one -/
theorem leaves_marks {F : Fence} {n : Nat} {P : Program} {fn : Func} {tmps : Array Value} {R : Ending → World → Prop} {N : Nat} : ∀ (ds : List Deferred) (W : World), Marks W N ds →
    (∀ W', Only W W' (fun b => N + 4 ≤ b ∧ ∃ o : Obj, W.heap[b]? = some o ∧ o.isCells = false) → ∃ v, (results fn tmps).run P W' = .ok v W' ∧ R (.returned v) W') → LeavesInM F n P fn tmps R ds .returning W
  | [], W, _, h => h W (Only.refl _ _)
  | d :: ds, W, hm, h => by
    obtain ⟨Ds, e, hn, hD⟩ := hm
    cases Ds with
    | nil => cases e
    | cons D Ds =>
      simp only [List.map_cons, List.cons.injEq] at e
      obtain ⟨rfl, rfl⟩ := e
      obtain ⟨hnD, hn⟩ := List.nodup_cons.1 hn
      have h1 := hD D (by simp)
      refine ⟨by simp, .inl ⟨D, _, rfl, run_takeDeferred h1.2, leaves_marks _ _ ⟨Ds, rfl, hn, fun D' q => ⟨(hD D' (by simp [q])).1, ?_⟩⟩ fun W' ho => h W' ?_⟩⟩
      · exact (World.putObj_heap_other (by rintro rfl; exact hnD q)).trans (hD D' (by simp [q])).2
      · refine (only_putObj D _ ⟨h1.1, _, h1.2, rfl⟩ : Only W (W.putObj D (.deferred none)) _).trans ho fun b hb => ?_
        obtain ⟨q1, o, q2, q3⟩ := hb
        by_cases hbD : b = D
        · subst hbD
          exact .inl ⟨q1, _, h1.2, rfl⟩
        · exact .inl ⟨q1, o, (World.putObj_heap_other hbD).symm.trans q2, q3⟩
end Go.Proofs.Ytfahoomkpammiaa
namespace Go.Proofs.Ytfahoomkpammiaa
open Go.RowKit Go.MapKept Go.Proofs.YtfahoomkpammiaaW.PrintWords Go.Proofs.YtfahoomkpammiaaW.PrintLast Go.Proofs.YtfahoomkpammiaaW.PrintMore Go.Proofs.Ytfahoomkpammiaa.PHistOrders
/-- a history within the bound of the document -/
def ShortH (l0 : List S45) : Prop := l0.length ≤ 2147483647 ∧ ∀ j, j < l0.length → (rd_T45 l0 (j : Nat)).f3.f2.length ≤ 2147483647 ∧ (rd_T45 l0 (j : Nat)).f3.f3.length ≤ 2147483647
abbrev mo (l0 : List S45) (p : Nat) : S45 := rd_T45 l0 ((p : Nat) : Int)
theorem mo_at {l0 : List S45} {p : Nat} (h : p < l0.length) : l0[p]? = some (mo l0 p) := by
  unfold mo rd_T45
  rw [Int.toNat_natCast, List.getD_eq_getElem?_getD, List.getElem?_eq_getElem h]
  rfl
def Endq (l0 : List S45) (p q : Nat) : Prop := p < q ∧ q < l0.length ∧ (mo l0 q).f0 = (mo l0 p).f0 ∧ EndsM l0 (mo l0 p) q ∧ ∀ j, p < j → j < q → (mo l0 j).f0 ≠ (mo l0 p).f0
theorem endq_iff {l0 : List S45} {p q : Nat} (h : p < l0.length) : endAt l0 (mo l0 p) (l0.length - (p + 1)) (p + 1) = some q ↔ Endq l0 p q := by
  refine (endAt_iff (l0.length - (p + 1)) (p + 1) (by omega)).trans ⟨fun ⟨a, b, c, d, e⟩ => ⟨a, b, c, d, fun j x y => e j x y⟩, fun ⟨a, b, c, d, e⟩ => ⟨a, b, c, d, fun j x y => e j x y⟩⟩
theorem Endq.one {l0 : List S45} {p q r : Nat} (h : Endq l0 p q) (g : Endq l0 p r) : q = r := by
  rcases Nat.lt_trichotomy q r with a | a | a
  · exact absurd h.2.2.1 (g.2.2.2.2 q h.1 a)
  · exact a
  · exact absurd g.2.2.1 (h.2.2.2.2 r g.1 a)
theorem Endq.inj {l0 : List S45} {p r q : Nat} (h : Endq l0 p q) (g : Endq l0 r q) : p = r := by
  rcases Nat.lt_trichotomy p r with a | a | a
  · exact absurd (g.2.2.1.symm.trans h.2.2.1) (h.2.2.2.2 r a g.1)
  · exact a
  · exact absurd (h.2.2.1.symm.trans g.2.2.1) (g.2.2.2.2 p a h.1)
theorem beg_mono (l0 : List S45) {p q : Nat} (h : p ≤ q) : begCount l0 p ≤ begCount l0 q := by
  induction h with
  | refl => exact Nat.le_refl _
  | @step m _ ih => exact Nat.le_trans ih (by show _ ≤ begCount l0 m + _; omega)
theorem beg_succ {l0 : List S45} {p : Nat} (h : (mo l0 p).f1 = true) : begCount l0 (p + 1) = begCount l0 p + 1 := by
  show begCount l0 p + (if (rd_T45 l0 (p : Nat)).f1 = true then 1 else 0) = _
  rw [if_pos h]
theorem beg_same {l0 : List S45} {p : Nat} (h : (mo l0 p).f1 = false) : begCount l0 (p + 1) = begCount l0 p := by
  show begCount l0 p + (if (rd_T45 l0 (p : Nat)).f1 = true then 1 else 0) = _
  rw [if_neg (by rw [show (rd_T45 l0 (p : Nat)).f1 = false from h]; simp), Nat.add_zero]
theorem beg_lt {l0 : List S45} {p q : Nat} (h : (mo l0 p).f1 = true) (hq : p < q) : begCount l0 p < begCount l0 q := by
  have := beg_mono l0 (show p + 1 ≤ q from hq)
  rw [beg_succ h] at this
  omega
theorem beg_inj {l0 : List S45} {p q : Nat} (h : (mo l0 p).f1 = true) (g : (mo l0 q).f1 = true) (e : begCount l0 p = begCount l0 q) : p = q := by
  rcases Nat.lt_trichotomy p q with a | a | a
  · have := beg_lt h a; omega
  · exact a
  · have := beg_lt g a; omega
theorem opEq_eq {a b : S40} (h : opEq a b) : a = b := by
  obtain ⟨h1, h2, h3⟩ := h
  cases a; cases b
  simp_all
/-- the state of reading, in words of places -/
structure RI (l0 : List S45) (i : Nat) (s : RS) : Prop where
  len : s.calls.length = begCount l0 i
  here : ∀ p, p < i → (mo l0 p).f1 = true → (opB (mo l0 p).f2 = true ∧ zeroR (mo l0 p).f3 = true) ∧
    ((∃ q, q < i ∧ Endq l0 p q ∧ rd_T70 s.calls (begCount l0 p : Nat) = ⟨(p : Nat), (q : Nat), (mo l0 p).f2, (mo l0 q).f3⟩) ∨
      (s.opn (mo l0 p).f0 = some (begCount l0 p) ∧ rd_T70 s.calls (begCount l0 p : Nat) = ⟨(p : Nat), 0, (mo l0 p).f2, z43⟩ ∧ ∀ j, p < j → j < i → (mo l0 j).f0 ≠ (mo l0 p).f0))
  opn : ∀ c k, s.opn c = some k → ∃ p, p < i ∧ (mo l0 p).f1 = true ∧ k = begCount l0 p ∧ (mo l0 p).f0 = c ∧ rd_T70 s.calls (k : Nat) = ⟨(p : Nat), 0, (mo l0 p).f2, z43⟩ ∧ ∀ j, p < j → j < i → (mo l0 j).f0 ≠ c
  ends : ∀ e, e < i → (mo l0 e).f1 = false → ∃ p, (mo l0 p).f1 = true ∧ Endq l0 p e
theorem ri_zero (l0 : List S45) : RI l0 0 ⟨[], fun _ => none⟩ := ⟨rfl, (fun p h => by omega), (fun c k h => by cases h), (fun e h => by omega)⟩
theorem upd1_self {f : Int → Option Nat} {k : Int} {v : Option Nat} : upd1 f k v k = v := if_pos rfl
theorem upd1_ne {f : Int → Option Nat} {k j : Int} {v : Option Nat} (h : j ≠ k) : upd1 f k v j = f j := if_neg h
theorem ri_begin {l0 : List S45} (hs : ShortH l0) {i : Nat} {s : RS} (h : RI l0 i s) (hi : i < l0.length) (hb : (mo l0 i).f1 = true) (ho : s.opn (mo l0 i).f0 = none) (hg : beginsB (mo l0 i) = true) :
    RI l0 (i + 1) ⟨s.calls ++ [⟨(i : Nat), 0, (mo l0 i).f2, z43⟩], upd1 s.opn (mo l0 i).f0 (some s.calls.length)⟩ := by
  have hlen := h.len
  have hB := begins_eq (mo l0 i) (hs.2 i hi).1 (hs.2 i hi).2
  rw [hg] at hB
  have hB2 := (Bool.and_eq_true _ _).mp hB.symm
  have hself : rd_T70 (s.calls ++ [⟨(i : Nat), 0, (mo l0 i).f2, z43⟩]) (begCount l0 i : Nat) = ⟨(i : Nat), 0, (mo l0 i).f2, z43⟩ := by
    rw [rd_app (by omega), if_neg (by omega)]
  have hold : ∀ p, p < i → (mo l0 p).f1 = true → rd_T70 (s.calls ++ [⟨(i : Nat), 0, (mo l0 i).f2, z43⟩]) (begCount l0 p : Nat) = rd_T70 s.calls (begCount l0 p : Nat) := fun p hp hpb => by
    have := beg_lt hpb hp
    rw [rd_app (by omega), if_pos (by omega)]
  refine ⟨by rw [List.length_append, List.length_singleton, hlen, beg_succ hb], fun p hp hpb => ?_, fun c k hc => ?_, fun e he heb => ?_⟩
  · rcases Nat.lt_or_ge p i with a | a
    · obtain ⟨h1, h2⟩ := h.here p a hpb
      refine ⟨h1, ?_⟩
      rcases h2 with ⟨q, q1, q2, q3⟩ | ⟨q1, q2, q3⟩
      · exact .inl ⟨q, by omega, q2, (hold p a hpb).trans q3⟩
      · have hne : (mo l0 p).f0 ≠ (mo l0 i).f0 := fun e => by rw [e, ho] at q1; cases q1
        refine .inr ⟨(upd1_ne hne).trans q1, (hold p a hpb).trans q2, fun j j1 j2 => ?_⟩
        rcases Nat.lt_or_ge j i with b | b
        · exact q3 j j1 b
        · obtain rfl : j = i := by omega
          exact fun e => hne e.symm
    · obtain rfl : p = i := by omega
      exact ⟨hB2, .inr ⟨by rw [← hlen]; exact upd1_self, hself, fun j j1 j2 => by omega⟩⟩
  · by_cases hcc : c = (mo l0 i).f0
    · subst hcc
      have : k = begCount l0 i := by
        have := (upd1_self (f := s.opn) (k := (mo l0 i).f0) (v := some s.calls.length)).symm.trans hc
        have := Option.some.inj this
        omega
      subst this
      exact ⟨i, by omega, hb, rfl, rfl, hself, fun j j1 j2 => by omega⟩
    · obtain ⟨p, p1, p2, p3, p4, p5, p6⟩ := h.opn c k ((upd1_ne hcc).symm.trans hc)
      subst p3
      refine ⟨p, by omega, p2, rfl, p4, (hold p p1 p2).trans p5, fun j j1 j2 => ?_⟩
      rcases Nat.lt_or_ge j i with b | b
      · exact p6 j j1 b
      · obtain rfl : j = i := by omega
        exact fun e => hcc e.symm
  · rcases Nat.lt_or_ge e i with a | a
    · exact h.ends e a heb
    · obtain rfl : e = i := by omega
      rw [hb] at heb
      cases heb
theorem ri_end {l0 : List S45} (hs : ShortH l0) {i : Nat} {s : RS} (h : RI l0 i s) (hi : i < l0.length) (hb : (mo l0 i).f1 = false) {k : Nat} (ho : s.opn (mo l0 i).f0 = some k) (hq : opEq (rd_T70 s.calls k).f2 (mo l0 i).f2) (hg : endsB (mo l0 i).f2 (mo l0 i).f3 = true) :
    RI l0 (i + 1) ⟨s.calls.set k ⟨(rd_T70 s.calls k).f0, (i : Nat), (rd_T70 s.calls k).f2, (mo l0 i).f3⟩, upd1 s.opn (mo l0 i).f0 none⟩ := by
  have hlen := h.len
  obtain ⟨p, p1, p2, p3, p4, p5, p6⟩ := h.opn _ k ho
  have hkl : k < s.calls.length := by
    have := beg_lt p2 p1
    omega
  rw [p5] at hq ⊢
  have hop : (mo l0 p).f2 = (mo l0 i).f2 := opEq_eq hq
  have hopB := (h.here p p1 p2).1.1
  have hrep : replyB (mo l0 p).f2 (mo l0 i).f3 = true := by
    rw [hop] at hopB ⊢
    rw [← ends_eq _ _ hopB (hs.2 i hi).1 (hs.2 i hi).2]
    exact hg
  have hE : Endq l0 p i := ⟨p1, hi, p4.symm, ⟨hb, by rw [hop]; exact ⟨rfl, rfl, rfl⟩, hrep⟩, fun j a b => fun e => p6 j a b (e.trans p4)⟩
  have hoth : ∀ r, r < i → (mo l0 r).f1 = true → r ≠ p → rd_T70 (s.calls.set k ⟨(p : Nat), (i : Nat), (mo l0 p).f2, (mo l0 i).f3⟩) (begCount l0 r : Nat) = rd_T70 s.calls (begCount l0 r : Nat) := fun r hr hrb hne => by
    rw [rd_set hkl, if_neg (fun e => hne (beg_inj hrb p2 (e.trans p3)))]
  refine ⟨by rw [List.length_set, hlen, beg_same hb], fun r hr hrb => ?_, fun c m hc => ?_, fun e he heb => ?_⟩
  · rcases Nat.lt_or_ge r i with a | a
    · by_cases hrp : r = p
      · subst hrp
        refine ⟨(h.here r a hrb).1, .inl ⟨i, by omega, hE, ?_⟩⟩
        rw [rd_set hkl, if_pos p3.symm]
      · obtain ⟨h1, h2⟩ := h.here r a hrb
        refine ⟨h1, ?_⟩
        rcases h2 with ⟨q, q1, q2, q3⟩ | ⟨q1, q2, q3⟩
        · exact .inl ⟨q, by omega, q2, (hoth r a hrb hrp).trans q3⟩
        · have hne : (mo l0 r).f0 ≠ (mo l0 i).f0 := fun e => by
            rw [e, ho] at q1
            exact hrp (beg_inj hrb p2 (by rw [← p3]; exact (Option.some.inj q1).symm))
          refine .inr ⟨(upd1_ne hne).trans q1, (hoth r a hrb hrp).trans q2, fun j j1 j2 => ?_⟩
          rcases Nat.lt_or_ge j i with b | b
          · exact q3 j j1 b
          · obtain rfl : j = i := by omega
            exact fun e => hne e.symm
    · obtain rfl : r = i := by omega
      rw [hb] at hrb
      cases hrb
  · by_cases hcc : c = (mo l0 i).f0
    · subst hcc
      cases (upd1_self (f := s.opn) (k := (mo l0 i).f0) (v := none)).symm.trans hc
    · obtain ⟨r, r1, r2, r3, r4, r5, r6⟩ := h.opn c m ((upd1_ne hcc).symm.trans hc)
      subst r3
      have hrp : r ≠ p := fun e => by subst e; exact hcc (r4.symm.trans p4)
      refine ⟨r, by omega, r2, rfl, r4, (hoth r r1 r2 hrp).trans r5, fun j j1 j2 => ?_⟩
      rcases Nat.lt_or_ge j i with b | b
      · exact r6 j j1 b
      · obtain rfl : j = i := by omega
        exact fun e => hcc e.symm
  · rcases Nat.lt_or_ge e i with a | a
    · exact h.ends e a heb
    · obtain rfl : e = i := by omega
      exact ⟨p, p2, hE⟩
theorem ri_step {l0 : List S45} (hs : ShortH l0) {i : Nat} {s s' : RS} (h : RI l0 i s) (hi : i < l0.length) (hst : rstep i (mo l0 i) s = some s') : RI l0 (i + 1) s' := by
  unfold rstep at hst
  split at hst
  · rename_i hb
    split at hst
    · rename_i hh
      obtain rfl := Option.some.inj hst
      exact ri_begin hs h hi hb hh.1 hh.2
    · cases hst
  · rename_i hb
    have hb : (mo l0 i).f1 = false := by simpa using hb
    split at hst
    · cases hst
    · rename_i k hk
      split at hst
      · rename_i hh
        obtain rfl := Option.some.inj hst
        exact ri_end hs h hi hb hk hh.1 hh.2
      · cases hst
theorem ri_at {l0 : List S45} (hs : ShortH l0) : ∀ (i : Nat) (s : RS), i ≤ l0.length → rat l0 i = some s → RI l0 i s := by
  intro i
  induction i with
  | zero => intro s _ h; cases h; exact ri_zero l0
  | succ i ih =>
    intro s hi h
    rw [rat_succ l0 i _ (mo_at (show i < l0.length by omega))] at h
    obtain ⟨s1, h1, h2⟩ := Option.bind_eq_some_iff.1 h
    exact ri_step hs (ih s1 (by omega) h1) (by omega) h2
/-! ### counting -/
theorem nodup_len : ∀ {l1 l2 : List Nat}, l1.Nodup → (∀ x ∈ l1, x ∈ l2) → l1.length ≤ l2.length := by
  intro l1
  induction l1 with
  | nil => intro l2 _ _; exact Nat.zero_le _
  | cons a l1 ih =>
    intro l2 hn hm
    obtain ⟨h1, h2⟩ := List.nodup_cons.1 hn
    have ha := hm a (by simp)
    have := ih (l2 := l2.erase a) h2 fun x hx => (List.mem_erase_of_ne (fun e => h1 (by rw [← e]; exact hx))).2 (hm x (by simp [hx]))
    rw [List.length_erase_of_mem ha] at this
    have hp := List.length_pos_of_mem ha
    simp only [List.length_cons]
    omega
def begs (l0 : List S45) (i : Nat) : List Nat := (List.range i).filter fun p => (mo l0 p).f1
def endsL (l0 : List S45) (i : Nat) : List Nat := (List.range i).filter fun p => !(mo l0 p).f1
theorem begs_len (l0 : List S45) : ∀ i, (begs l0 i).length = begCount l0 i ∧ (endsL l0 i).length + begCount l0 i = i := by
  intro i
  induction i with
  | zero => exact ⟨rfl, rfl⟩
  | succ i ih =>
    unfold begs endsL at ih ⊢
    rw [List.range_succ, List.filter_append, List.filter_append, List.length_append, List.length_append]
    cases hb : (mo l0 i).f1 with
    | true =>
      rw [beg_succ hb]
      simp only [List.filter_cons, hb, List.filter_nil]
      simp
      omega
    | false =>
      rw [beg_same hb]
      simp only [List.filter_cons, hb, List.filter_nil]
      simp
      omega
theorem begs_mem {l0 : List S45} {i p : Nat} : p ∈ begs l0 i ↔ p < i ∧ (mo l0 p).f1 = true := by unfold begs; simp [List.mem_filter]
theorem ends_mem {l0 : List S45} {i p : Nat} : p ∈ endsL l0 i ↔ p < i ∧ (mo l0 p).f1 = false := by unfold endsL; simp [List.mem_filter]
theorem begs_nodup (l0 : List S45) (i : Nat) : (begs l0 i).Nodup := List.Pairwise.filter _ List.nodup_range
theorem endsL_nodup (l0 : List S45) (i : Nat) : (endsL l0 i).Nodup := List.Pairwise.filter _ List.nodup_range
def qOf (l0 : List S45) (p : Nat) : Nat := (endAt l0 (mo l0 p) (l0.length - (p + 1)) (p + 1)).getD 0
theorem qOf_eq {l0 : List S45} {p q : Nat} (h : Endq l0 p q) : qOf l0 p = q := by
  unfold qOf
  rw [(endq_iff (by have := h.1; have := h.2.1; omega)).2 h]
  rfl
/-- each call ends -/
def AllEnd (l0 : List S45) : Prop := ∀ p, p < l0.length → (mo l0 p).f1 = true → ∃ q, Endq l0 p q
/-- each end is a call's -/
def AllBeg (l0 : List S45) : Prop := ∀ e, e < l0.length → (mo l0 e).f1 = false → ∃ p, (mo l0 p).f1 = true ∧ Endq l0 p e
theorem qs_nodup {l0 : List S45} (h : AllEnd l0) : ((begs l0 l0.length).map (qOf l0)).Nodup := by
  refine List.pairwise_map.2 ?_
  refine List.Pairwise.imp_of_mem (fun {a b} ha hb hne => ?_) (begs_nodup l0 l0.length)
  obtain ⟨a1, a2⟩ := begs_mem.1 ha
  obtain ⟨b1, b2⟩ := begs_mem.1 hb
  obtain ⟨qa, hqa⟩ := h a a1 a2
  obtain ⟨qb, hqb⟩ := h b b1 b2
  rw [qOf_eq hqa, qOf_eq hqb]
  rintro rfl
  exact hne (hqa.inj hqb)
theorem qs_sub {l0 : List S45} (h : AllEnd l0) : ∀ x ∈ (begs l0 l0.length).map (qOf l0), x ∈ endsL l0 l0.length := by
  intro x hx
  obtain ⟨p, hp, rfl⟩ := List.mem_map.1 hx
  obtain ⟨p1, p2⟩ := begs_mem.1 hp
  obtain ⟨q, hq⟩ := h p p1 p2
  rw [qOf_eq hq]
  exact ends_mem.2 ⟨hq.2.1, hq.2.2.2.1.1⟩
theorem count_le {l0 : List S45} (h : AllEnd l0) : begCount l0 l0.length + begCount l0 l0.length ≤ l0.length := by
  have h1 := nodup_len (qs_nodup h) (qs_sub h)
  have h2 := begs_len l0 l0.length
  rw [List.length_map] at h1
  omega
theorem count_ge {l0 : List S45} (h : AllBeg l0) : l0.length ≤ begCount l0 l0.length + begCount l0 l0.length := by
  have h1 := nodup_len (l2 := (begs l0 l0.length).map (qOf l0)) (endsL_nodup l0 l0.length) fun x hx => by
    obtain ⟨x1, x2⟩ := ends_mem.1 hx
    obtain ⟨p, hp, hq⟩ := h x x1 x2
    exact List.mem_map.2 ⟨p, begs_mem.2 ⟨by have := hq.1; omega, hp⟩, qOf_eq hq⟩
  have h2 := begs_len l0 l0.length
  rw [List.length_map] at h1
  omega
theorem count_all {l0 : List S45} (h : AllEnd l0) (hc : l0.length ≤ begCount l0 l0.length + begCount l0 l0.length) : AllBeg l0 := by
  intro e e1 e2
  by_cases hm : e ∈ (begs l0 l0.length).map (qOf l0)
  · obtain ⟨p, hp, hpe⟩ := List.mem_map.1 hm
    obtain ⟨p1, p2⟩ := begs_mem.1 hp
    obtain ⟨q, hq⟩ := h p p1 p2
    rw [qOf_eq hq] at hpe
    subst hpe
    exact ⟨p, p2, hq⟩
  · have h1 := nodup_len (l1 := e :: (begs l0 l0.length).map (qOf l0)) (l2 := endsL l0 l0.length) (List.nodup_cons.2 ⟨hm, qs_nodup h⟩) fun x hx => by
      rcases List.mem_cons.1 hx with rfl | hx
      · exact ends_mem.2 ⟨e1, e2⟩
      · exact qs_sub h x hx
    have h2 := begs_len l0 l0.length
    rw [List.length_cons, List.length_map] at h1
    omega
/-! ### the two readings are one -/
theorem read_ref {l0 : List S45} (hs : ShortH l0) {cs : List S70} (h : readB l0 = some cs) : refB l0 = some cs := by
  unfold readB at h
  obtain ⟨s, h1, h2⟩ := Option.bind_eq_some_iff.1 h
  split at h2
  · rename_i hh
    obtain rfl := Option.some.inj h2
    have hI := ri_at hs l0.length s (Nat.le_refl _) h1
    have hend : ∀ p, p < l0.length → (mo l0 p).f1 = true → ∃ q, Endq l0 p q ∧ rd_T70 s.calls (begCount l0 p : Nat) = ⟨(p : Nat), (q : Nat), (mo l0 p).f2, (mo l0 q).f3⟩ := fun p a b => by
      rcases (hI.here p a b).2 with ⟨q, _, q2, q3⟩ | ⟨q1, _⟩
      · exact ⟨q, q2, q3⟩
      · rw [hh.1] at q1; cases q1
    have hA : AllEnd l0 := fun p a b => by
      obtain ⟨q, hq, _⟩ := hend p a b
      exact ⟨q, hq⟩
    have hB : AllBeg l0 := hI.ends
    have c1 := count_le hA
    have c2 := count_ge hB
    have hlen := hI.len
    have hcat : ∀ i, i ≤ l0.length → cat l0 i = some ⟨s.calls.take (begCount l0 i), i - begCount l0 i⟩ := by
      intro i
      induction i with
      | zero => intro _; simp [cat, begCount]
      | succ i ih =>
        intro hi
        show (cat l0 i).bind (cstep l0 i (rd_T45 l0 i)) = _
        rw [ih (by omega), Option.bind_some]
        have hle := begCount_le l0 i
        unfold cstep
        cases hb : (mo l0 i).f1 with
        | false =>
          rw [if_pos rfl, beg_same hb]
          show some (CS.mk _ (i - begCount l0 i + 1)) = some (CS.mk _ _)
          rw [show i - begCount l0 i + 1 = i + 1 - begCount l0 i by omega]
        | true =>
          obtain ⟨q, hq, hrd⟩ := hend i (by omega) hb
          have hlt : begCount l0 i < s.calls.length := by rw [hlen]; exact beg_lt hb (by omega)
          rw [if_neg (by simp), if_pos (hI.here i (by omega) hb).1, (endq_iff (by omega)).2 hq, beg_succ hb]
          have e1 : s.calls.take (begCount l0 i + 1) = s.calls.take (begCount l0 i) ++ [⟨(i : Nat), (q : Nat), (mo l0 i).f2, (mo l0 q).f3⟩] := by
            rw [List.take_add_one, ← hrd]
            unfold rd_T70
            rw [Int.toNat_natCast, List.getD_eq_getElem?_getD, List.getElem?_eq_getElem hlt]
            rfl
          rw [e1]
          show some (CS.mk _ (i - begCount l0 i)) = some (CS.mk _ _)
          rw [show i - begCount l0 i = i + 1 - (begCount l0 i + 1) by omega]
    unfold refB
    rw [if_neg (by have := hh.2; omega), hcat _ (Nat.le_refl _), Option.bind_some]
    dsimp only
    have e1 : s.calls.take (begCount l0 l0.length) = s.calls := List.take_of_length_le (by omega)
    rw [e1, if_pos (by omega)]
  · cases h2
theorem cat_begin {l0 : List S45} : ∀ (i : Nat) (s : CS), i ≤ l0.length → cat l0 i = some s → s.calls.length = begCount l0 i ∧ ∀ p, p < i → (mo l0 p).f1 = true → (opB (mo l0 p).f2 = true ∧ zeroR (mo l0 p).f3 = true) ∧ ∃ q, Endq l0 p q := by
  intro i
  induction i with
  | zero => intro s _ h; cases h; exact ⟨rfl, fun p h => by omega⟩
  | succ i ih =>
    intro s hi h
    obtain ⟨s1, h1, h2⟩ := Option.bind_eq_some_iff.1 h
    obtain ⟨i1, i2⟩ := ih s1 (by omega) h1
    unfold cstep at h2
    split at h2
    · rename_i hb
      obtain rfl := Option.some.inj h2
      refine ⟨by rw [beg_same hb]; exact i1, fun p hp hpb => ?_⟩
      rcases Nat.lt_or_ge p i with a | a
      · exact i2 p a hpb
      · obtain rfl : p = i := by omega
        rw [show (mo l0 p).f1 = false from hb] at hpb
        cases hpb
    · rename_i hb
      split at h2
      · rename_i ho
        obtain ⟨k, hk, rfl⟩ := Option.map_eq_some_iff.1 h2
        have hb : (mo l0 i).f1 = true := by simpa using hb
        refine ⟨by rw [beg_succ hb]; simp [i1], fun p hp hpb => ?_⟩
        rcases Nat.lt_or_ge p i with a | a
        · exact i2 p a hpb
        · obtain rfl : p = i := by omega
          exact ⟨ho, k, (endq_iff (by omega)).1 hk⟩
      · cases h2
theorem ref_read {l0 : List S45} (hs : ShortH l0) {cs : List S70} (h : refB l0 = some cs) : ∃ cs', readB l0 = some cs' := by
  unfold refB at h
  split at h
  · cases h
  · rename_i h64
    obtain ⟨s, h1, h2⟩ := Option.bind_eq_some_iff.1 h
    split at h2
    · rename_i he
      obtain ⟨b1, b2⟩ := cat_begin l0.length s (Nat.le_refl _) h1
      have hl := cat_len l0.length s h1
      have hA : AllEnd l0 := fun p a b => (b2 p a b).2
      have hB : AllBeg l0 := count_all hA (by omega)
      have hrat : ∀ i, i ≤ l0.length → ∃ s, rat l0 i = some s := by
        intro i
        induction i with
        | zero => intro _; exact ⟨_, rat_zero l0⟩
        | succ i ih =>
          intro hi
          obtain ⟨t, ht⟩ := ih (by omega)
          have hI := ri_at hs i t (by omega) ht
          rw [rat_succ l0 i _ (mo_at (show i < l0.length by omega)), ht, Option.bind_some]
          unfold rstep
          cases hb : (mo l0 i).f1 with
          | true =>
            rw [if_pos rfl]
            have hbg : beginsB (mo l0 i) = true := by
              rw [begins_eq _ (hs.2 i (by omega)).1 (hs.2 i (by omega)).2, (b2 i (by omega) hb).1.1, (b2 i (by omega) hb).1.2]
              rfl
            have hop : t.opn (mo l0 i).f0 = none := by
              cases hk : t.opn (mo l0 i).f0 with
              | none => rfl
              | some k =>
                obtain ⟨p, p1, p2, p3, p4, p5, p6⟩ := hI.opn _ k hk
                obtain ⟨q, hq⟩ := hA p (by omega) p2
                exfalso
                rcases Nat.lt_trichotomy q i with a | a | a
                · exact p6 q hq.1 a (hq.2.2.1.trans p4)
                · subst a
                  have := hq.2.2.2.1.1
                  rw [show (rd_T45 l0 ((q : Nat) : Int)).f1 = true from hb] at this
                  cases this
                · exact hq.2.2.2.2 i p1 a p4.symm
            rw [if_pos ⟨hop, hbg⟩]
            exact ⟨_, rfl⟩
          | false =>
            rw [if_neg (by simp)]
            obtain ⟨p, p1, p2⟩ := hB i (by omega) hb
            rcases (hI.here p p2.1 p1).2 with ⟨q, q1, q2, _⟩ | ⟨q1, q2, _⟩
            · have := q2.one p2
              omega
            · rw [p2.2.2.1, q1]
              dsimp only
              rw [q2]
              have hE := p2.2.2.2.1
              have hop : (mo l0 i).f2 = (mo l0 p).f2 := opEq_eq hE.2.1
              have hen : endsB (mo l0 i).f2 (mo l0 i).f3 = true := by
                rw [hop, ends_eq _ _ (b2 p (by have := p2.1; omega) p1).1.1 (hs.2 i (by omega)).1 (hs.2 i (by omega)).2]
                exact hE.2.2
              rw [if_pos ⟨by rw [hop]; exact ⟨rfl, rfl, rfl⟩, hen⟩]
              exact ⟨_, rfl⟩
      obtain ⟨t, ht⟩ := hrat l0.length (Nat.le_refl _)
      have hI := ri_at hs l0.length t (Nat.le_refl _) ht
      refine ⟨t.calls, readB_yes ht ⟨fun c => ?_, by rw [hI.len]; omega⟩⟩
      cases hk : t.opn c with
      | none => rfl
      | some k =>
        obtain ⟨p, p1, p2, p3, p4, p5, p6⟩ := hI.opn _ k hk
        obtain ⟨q, hq⟩ := hA p (by omega) p2
        exact absurd (hq.2.2.1.trans p4) (p6 q hq.1 hq.2.1)
    · cases h2
theorem read_eq {l0 : List S45} (hs : ShortH l0) : readB l0 = refB l0 := by
  cases h : refB l0 with
  | none =>
    cases g : readB l0 with
    | none => rfl
    | some cs => rw [read_ref hs g] at h; cases h
  | some cs =>
    obtain ⟨cs', h'⟩ := ref_read hs h
    rw [h', ← read_ref hs h', h]
/-- what the calls of a history are -/
structure CsOk (cs : List S70) : Prop where
  rise : ∀ i j, i < j → j < cs.length → (rd_T70 cs (i : Nat)).f0 < (rd_T70 cs (j : Nat)).f0
  span : ∀ i, i < cs.length → (rd_T70 cs (i : Nat)).f0 < (rd_T70 cs (i : Nat)).f1
  op : ∀ i, i < cs.length → opB (rd_T70 cs (i : Nat)).f2 = true
  reply : ∀ i, i < cs.length → replyB (rd_T70 cs (i : Nat)).f2 (rd_T70 cs (i : Nat)).f3 = true
  few : cs.length ≤ 64
  keys : ∀ i, i < cs.length → (rd_T70 cs (i : Nat)).f3.f2.length ≤ 2147483647
theorem begs_split {l0 : List S45} : ∀ (i k : Nat), k < begCount l0 i → ∃ p, p < i ∧ (mo l0 p).f1 = true ∧ begCount l0 p = k := by
  intro i
  induction i with
  | zero => intro k h; exact absurd h (Nat.not_lt_zero _)
  | succ i ih =>
    intro k h
    cases hb : (mo l0 i).f1 with
    | false =>
      rw [beg_same hb] at h
      obtain ⟨p, a, b⟩ := ih k h
      exact ⟨p, by omega, b⟩
    | true =>
      rw [beg_succ hb] at h
      rcases Nat.lt_or_ge k (begCount l0 i) with a | a
      · obtain ⟨p, a, b⟩ := ih k a
        exact ⟨p, by omega, b⟩
      · exact ⟨i, by omega, hb, by omega⟩
theorem read_csok {l0 : List S45} (hs : ShortH l0) {cs : List S70} (h : readB l0 = some cs) : CsOk cs := by
  unfold readB at h
  obtain ⟨s, h1, h2⟩ := Option.bind_eq_some_iff.1 h
  split at h2
  · rename_i hh
    obtain rfl := Option.some.inj h2
    have hI := ri_at hs l0.length s (Nat.le_refl _) h1
    have hk : ∀ k, k < s.calls.length → ∃ p q, begCount l0 p = k ∧ p < l0.length ∧ (mo l0 p).f1 = true ∧ Endq l0 p q ∧ opB (mo l0 p).f2 = true ∧ rd_T70 s.calls (k : Nat) = ⟨(p : Nat), (q : Nat), (mo l0 p).f2, (mo l0 q).f3⟩ := fun k hk => by
      obtain ⟨p, p1, p2, p3⟩ := begs_split l0.length k (by rw [← hI.len]; exact hk)
      subst p3
      obtain ⟨a, b⟩ := hI.here p p1 p2
      rcases b with ⟨q, _, q2, q3⟩ | ⟨q1, _⟩
      · exact ⟨p, q, rfl, p1, p2, q2, a.1, q3⟩
      · rw [hh.1] at q1; cases q1
    refine ⟨fun i j hij hj => ?_, fun i hi => ?_, fun i hi => ?_, fun i hi => ?_, hh.2, fun i hi => ?_⟩
    · obtain ⟨p, q, a1, _, _, _, _, a⟩ := hk i (by omega)
      obtain ⟨p', q', b1, _, _, _, _, b⟩ := hk j hj
      rw [a, b]
      show ((p : Nat) : Int) < ((p' : Nat) : Int)
      rcases Nat.lt_or_ge p p' with c | c
      · omega
      · have := beg_mono l0 c
        omega
    · obtain ⟨p, q, _, _, _, hq, _, a⟩ := hk i hi
      rw [a]
      have := hq.1
      show ((p : Nat) : Int) < ((q : Nat) : Int)
      omega
    · obtain ⟨p, q, _, _, _, _, ho, a⟩ := hk i hi
      rw [a]
      exact ho
    · obtain ⟨p, q, _, _, _, hq, ho, a⟩ := hk i hi
      rw [a]
      exact hq.2.2.2.1.2.2
    · obtain ⟨p, q, _, _, _, hq, ho, a⟩ := hk i hi
      rw [a]
      exact (hs.2 q hq.2.1).1
  · cases h2
end Go.Proofs.Ytfahoomkpammiaa
namespace Go.Proofs.Ytfahoomkpammiaa
open Go.RowKit Go.MapKept
theorem rnameW {C : Code} {Q : Exit → Act → World → Prop} {a : Act} {W : World} (h : ∀ V, V = W → Code.wp Try.prog C Q a V) : Code.wp Try.prog C Q a W := h W rfl
abbrev intsV (l : List Int) : List Value := l.map (Value.int .i64)
abbrev strsV (l : List ByteArray) : List Value := l.map Value.string
/-- block t is a table: keys K, values V, in rows of its own from base on -/
structure RTab (W : World) (t base : Nat) (K : List Int) (V : List ByteArray) (vk vv : Value) : Prop where
  blk : W.heap[t]? = some (.cells #[vk, vv] 76 (0, 0))
  keys : W.ownsRow base 3 1 vk K.length (intsV K)
  vals : W.ownsRow base 9 1 vv V.length (strsV V)
  out : t < base
  apart : ∀ g, vk.ownBlock = some g → vv.ownBlock ≠ some g
  len : K.length = V.length
  small : K.length ≤ 1099511627776
def Rising (K : List Int) : Prop := ∀ i j, i < j → j < K.length → K.getD i 0 < K.getD j 0
/-- where a key stands, or would stand -/
structure AtPlace (K : List Int) (key : Int) (lo : Nat) : Prop where
  le : lo ≤ K.length
  low : ∀ j, j < lo → K.getD j 0 < key
  high : ∀ j, lo ≤ j → j < K.length → key ≤ K.getD j 0
def foundB (K : List Int) (key : Int) (lo : Nat) : Bool := decide (lo < K.length) && decide (K.getD lo 0 = key)
theorem intsV_at {K : List Int} {i : Nat} (h : i < K.length) : (intsV K)[i]? = some (.int .i64 (K.getD i 0)) := by
  unfold intsV
  rw [List.getElem?_map, List.getD_eq_getElem?_getD, List.getElem?_eq_getElem h]
  rfl
theorem strsV_at {V : List ByteArray} {i : Nat} (h : i < V.length) : (strsV V)[i]? = some (.string (V.getD i ⟨#[]⟩)) := by
  unfold strsV
  rw [List.getElem?_map, List.getD_eq_getElem?_getD, List.getElem?_eq_getElem h]
  rfl
theorem own_at {w : World} {base : Nat} {e : TypeId} {n : Nat} {A : Option Addr} {c : Nat} {xs : List Value} (h : w.ownsRow base e 1 (.slice A n c) n xs) {i : Nat} {x : Value} (hx : xs[i]? = some x) : ∃ g, A = some ⟨g, 0, none⟩ ∧ w.cell? ⟨g, i, none⟩ = some x ∧ w.frozen? ⟨g, i, none⟩ = false ∧ g < w.heap.size := by
  obtain ⟨g, c', he, h1, h2, _⟩ := own_cell h hx
  injection he with h3 _ _
  exact ⟨g, h3, h1, h2, World.block_lt_of_cell? w _ h1⟩
set_option maxRecDepth 100000 in
set_option maxHeartbeats 1000000 in
theorem rat_calls {w : World} {t base : Nat} {K : List Int} {V : List ByteArray} {vk vv : Value} (h : RTab w t base K V vk vv) (hr : Rising K) (key : Int) :
    Calls Try.prog 61 #[.pointer (some ⟨t, 0, none⟩), .int .i64 key] w fun e w' => ∃ lo : Nat, AtPlace K key lo ∧ e = .returned (.tuple #[.int .i64 lo, .bool (foundB K key lo)]) ∧ ∃ n, w' = w.drewN n := by
  obtain ⟨A, c, rfl⟩ := own_slice h.keys
  have c0 := blk_cell h.blk (i := 0) rfl
  have hsm : K.length ≤ 1099511627776 := h.small
  have hn : K.length ≤ 9223372036854775806 := by omega
  have H := Lib.hid (And.intro h (And.intro hr hsm))
  clear h hr hsm
  have hu := Try.underlying76
  go_enter Try.func61, Try.ntmps61
  go_wp2_with fail
  go_loop [6, 7] (fun s6 s7 => ∃ lo hi : Nat, s6 = .int .i64 lo ∧ s7 = .int .i64 hi ∧ lo ≤ hi ∧ hi ≤ K.length ∧ (∀ j, j < lo → K.getD j 0 < key) ∧ (∀ j, hi ≤ j → j < K.length → key ≤ K.getD j 0)) (fun s6 s7 => (intOf s7).toNat - (intOf s6).toNat)
  case atStart => exact ⟨0, K.length, rfl, rfl, Nat.zero_le _, Nat.le_refl _, fun j q => by omega, fun j q1 q2 => by omega⟩
  case round =>
    obtain ⟨lo, hi, rfl, rfl, h1, h2, h3, h4⟩ := hrel
    have HL := Lib.hid (And.intro h3 h4)
    clear h3 h4
    by_cases hlt : lo < hi
    · have hlD : decide ((lo : Int) < (hi : Int)) = true := by simp; omega
      obtain ⟨m, hm⟩ : ∃ m : Nat, m = lo + (hi - lo) / 2 := ⟨_, rfl⟩
      have hm1 : lo ≤ m := by omega
      have hm2 : m < hi := by omega
      have hmid : (lo : Int) + ((hi : Int) - (lo : Int)) / 2 = (m : Int) := by omega
      obtain ⟨g, hA, x0, _, _⟩ := own_at H.out.1.keys (i := m) (x := .int .i64 (K.getD m 0)) (intsV_at (by omega))
      subst hA
      have hmD : decide ((m : Int) < (K.length : Int)) = true := by simp; omega
      obtain ⟨y, hy⟩ : ∃ y, y = K.getD m 0 := ⟨_, rfl⟩
      rw [← hy] at x0
      have HY := Lib.hid (And.intro hm hy)
      clear hm hy
      by_cases hk : y < key
      · have hkD : decide (y < key) = true := decide_eq_true hk
        have HK := Lib.hid hk
        clear hk
        go_wp2_with fail
        go_round
        case rel => exact ⟨m + 1, hi, by go_num, rfl, by omega, h2, fun j hj => by
          have hr := H.out.2.1
          rcases Nat.lt_or_ge j m with q | q
          · have := hr j m q (by omega); rw [← HY.out.2] at this; have := HK.out; omega
          · obtain rfl : j = m := by omega
            rw [← HY.out.2]; exact HK.out, HL.out.2⟩
        case measure => simp [intOf]; omega
      · have hkD : decide (y < key) = false := decide_eq_false hk
        have HK := Lib.hid hk
        clear hk
        go_wp2_with fail
        go_round
        case rel => exact ⟨lo, m, rfl, rfl, hm1, by omega, HL.out.1, fun j hj hjl => by
          have hr := H.out.2.1
          rcases Nat.eq_or_lt_of_le hj with q | q
          · subst q; rw [← HY.out.2]; have := HK.out; omega
          · have := hr m j q hjl; rw [← HY.out.2] at this; have := HK.out; omega⟩
        case measure => simp [intOf]; omega
    · obtain rfl : lo = hi := by omega
      have hlD : decide ((lo : Int) < (lo : Int)) = false := by simp
      have HA := Lib.hid (show AtPlace K key lo from ⟨h2, HL.out.1, HL.out.2⟩)
      by_cases hin : lo < K.length
      · have hiD : decide ((lo : Int) < (K.length : Int)) = true := by simp; omega
        obtain ⟨g, hA, x0, _, _⟩ := own_at H.out.1.keys (i := lo) (x := .int .i64 (K.getD lo 0)) (intsV_at hin)
        subst hA
        obtain ⟨y, hy⟩ : ∃ y, y = K.getD lo 0 := ⟨_, rfl⟩
        rw [← hy] at x0
        have HF : Hid (foundB K key lo = decide (y = key)) := Lib.hid (by unfold foundB; rw [decide_eq_true hin, ← hy]; rfl)
        clear hy
        by_cases hk : y = key
        · subst hk
          have HG : Hid (foundB K y lo = true) := Lib.hid (by rw [HF.out]; simp)
          clear HF
          go_wp2_with fail
          go_quiet (fail)
          go_wp2_with fail
          go_ret2
          exact ⟨lo, HA.out, by rw [HG.out]; rfl, _, rfl⟩
        · have e1 : (y == key) = false := beq_eq_false_iff_ne.mpr hk
          have HG : Hid (foundB K key lo = false) := Lib.hid (by rw [HF.out]; exact decide_eq_false hk)
          clear HF hk
          go_wp2_with fail
          go_quiet (fail)
          go_wp2_with fail
          go_ret2
          exact ⟨lo, HA.out, by rw [HG.out]; rfl, _, rfl⟩
      · have hiD : decide ((lo : Int) < (K.length : Int)) = false := by simp; omega
        have HG : Hid (foundB K key lo = false) := Lib.hid (by unfold foundB; rw [decide_eq_false hin]; rfl)
        go_wp2_with fail
        go_quiet (fail)
        go_wp2_with fail
        go_ret2
        exact ⟨lo, HA.out, by rw [HG.out]; rfl, _, rfl⟩
end Go.Proofs.Ytfahoomkpammiaa
