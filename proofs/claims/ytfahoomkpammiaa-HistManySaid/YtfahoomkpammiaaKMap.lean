/- Words for this family of proofs, over any program: a map keyed by ints as a function, and the frame 'nothing but these blocks has turned'. -/
import Derived.Maps.Keyed
import Derived.Below
import Derived.OwnWalk
import Derived.Deep.Draws
import Derived.Laws.AppendOwn
import Derived.MapKept
namespace Go.Proofs.Ytfahoomkpammiaa
open Go.RowKit Go.MapKept

/-! ### 1. the frame: what lies outside S is as it was -/
structure Only (w w' : World) (S : Nat → Prop) : Prop where
  os : w'.os = w.os
  tape : w'.tape = w.tape
  output : w'.output = w.output
  size : w.heap.size ≤ w'.heap.size
  block : ∀ k, k < w.heap.size → ¬ S k → w'.heap[k]? = w.heap[k]?

section
variable {w w1 w2 : World} {S S' : Nat → Prop}
theorem Only.refl (w : World) (S : Nat → Prop) : Only w w S := ⟨rfl, rfl, rfl, Nat.le_refl _, fun _ _ _ => rfl⟩
theorem Only.trans (h : Only w w1 S) (k : Only w1 w2 S') (hs : ∀ b, S' b → S b ∨ w.heap.size ≤ b) : Only w w2 S :=
  ⟨k.os.trans h.os, k.tape.trans h.tape, k.output.trans h.output, Nat.le_trans h.size k.size, fun b hb hn =>
    (k.block b (Nat.lt_of_lt_of_le hb h.size) (fun q => by rcases hs b q with q | q; exact hn q; omega)).trans (h.block b hb hn)⟩
theorem Only.mono (h : Only w w1 S) (hs : ∀ b, b < w.heap.size → S b → S' b) : Only w w1 S' :=
  ⟨h.os, h.tape, h.output, h.size, fun b hb hn => h.block b hb (fun q => hn (hs b hb q))⟩
theorem Only.trans' (h : Only w w1 S) (k : Only w1 w2 S) : Only w w2 S := h.trans k fun _ q => .inl q
theorem Only.drew (h : Only w w1 S) : Only w w1.drew S := ⟨h.os, h.tape, h.output, h.size, h.block⟩
theorem Only.drewN (h : Only w w1 S) (n : Nat) : Only w (w1.drewN n) S := ⟨h.os, h.tape, h.output, h.size, h.block⟩
theorem Only.alloc (h : Only w w1 S) (o : Obj) : Only w (w1.alloc o) S :=
  ⟨h.os, h.tape, h.output, Nat.le_trans h.size (by simp), fun b hb hn => (Below.heap_alloc w1 o b (Nat.lt_of_lt_of_le hb h.size)).trans (h.block b hb hn)⟩
theorem Only.setCell (h : Only w w1 S) {p : Addr} (hp : S p.block ∨ w.heap.size ≤ p.block) (u : Value) : Only w (w1.setCell p u) S :=
  ⟨h.os, h.tape, h.output, by simpa [World.setCell] using h.size, fun b hb hn => (Below.heap_setCell w1 p u b (by
    rintro rfl
    rcases hp with hp | hp
    · exact hn hp
    · omega)).trans (h.block b hb hn)⟩
theorem Only.grown {row : Option Nat} (h : Only w w1 S) (hg : w1.grownBy w2 row) (hr : ∀ g, row = some g → S g ∨ w.heap.size ≤ g) : Only w w2 S :=
  ⟨hg.os.trans h.os, hg.tape.trans h.tape, hg.output.trans h.output, Nat.le_trans h.size hg.size, fun b hb hn =>
    (hg.block b (Nat.lt_of_lt_of_le hb h.size) (fun e => by
      rcases hr b e.symm with q | q
      · exact hn q
      · omega)).trans (h.block b hb hn)⟩
theorem Only.below (h : Only w w1 S) {B : Nat} (hB : B ≤ w.heap.size) (hs : ∀ b, S b → B ≤ b) : Below B w w1 :=
  ⟨h.os, h.tape, h.output, h.size, fun b hb => h.block b (by omega) (fun q => by have := hs b q; omega)⟩
theorem Only.of_below {B : Nat} (h : Below B w w1) (hs : ∀ b, B ≤ b → b < w.heap.size → S b) : Only w w1 S :=
  ⟨h.os, h.tape, h.output, h.size, fun b hb hn => h.block b (by
    rcases Nat.lt_or_ge b B with q | q
    · exact q
    · exact absurd (hs b q hb) hn)⟩
theorem Only.of_grown {row : Option Nat} (hg : w.grownBy w1 row) (hr : ∀ g, row = some g → S g) : Only w w1 S := (Only.refl w S).grown hg fun g e => .inl (hr g e)
theorem Only.cell (h : Only w w1 S) {p : Addr} (hp : p.block < w.heap.size) (hn : ¬ S p.block) : w1.cell? p = w.cell? p := World.cell?_of_block (w := w) (h.block p.block hp hn)
theorem Only.row {base : Nat} {e : TypeId} {size n : Nat} {v : Value} {xs : List Value} (h : Only w w1 S) (hr : w.ownsRow base e size v n xs) (hn : ∀ g, v.ownBlock = some g → ¬ S g) : w1.ownsRow base e size v n xs := by
  refine ⟨hr.1, ?_⟩
  rcases hr.2 with hh | ⟨g, cap, cur, rfl, hb, hgg, rest⟩
  · exact .inl hh
  · refine .inr ⟨g, cap, cur, rfl, hb, ?_, rest⟩
    rw [h.block g (Array.getElem?_eq_some_iff.1 hgg).1 (hn g rfl)]
    exact hgg
theorem Only.blk (h : Only w w1 S) {g : Nat} {o : Obj} (hg : w.heap[g]? = some o) (hn : ¬ S g) : w1.heap[g]? = some o :=
  (h.block g (Array.getElem?_eq_some_iff.1 hg).1 hn).trans hg
end

/-! ### 2. a map keyed by ints -/
/-- the entries, as a function -/
def isAt (k : Int) : Value → Bool
  | .int .i64 n => decide (n = k)
  | _ => false
theorem isAt_iff {k : Int} {v : Value} : isAt k v = true ↔ v = .int .i64 k := by
  unfold isAt
  split
  · simp
  · rename_i h
    constructor
    · intro q; cases q
    · intro q; exact absurd q (h k)
def look : List MapEntry → Int → Option Value
  | [], _ => none
  | e :: es, k => if isAt k e.key = true then some e.val else look es k
theorem look_none {l : List MapEntry} {k : Int} (h : ∀ x ∈ l, x.key ≠ .int .i64 k) : look l k = none := by
  induction l with
  | nil => rfl
  | cons e l ih => rw [look, if_neg (fun q => h e (by simp) (isAt_iff.1 q))]; exact ih fun x hx => h x (by simp [hx])
theorem look_some {l : List MapEntry} {k : Int} (hd : (l.map (·.key)).Nodup) : ∀ {e : MapEntry}, e ∈ l → e.key = .int .i64 k → look l k = some e.val := by
  induction l with
  | nil => intro e h; cases h
  | cons a l ih =>
    intro e he hk
    simp only [List.map_cons, List.nodup_cons] at hd
    rw [look]
    rcases List.mem_cons.1 he with rfl | he
    · rw [if_pos (isAt_iff.2 hk)]
    · rw [if_neg (fun q => hd.1 (by rw [isAt_iff.1 q, ← hk]; exact List.mem_map.2 ⟨e, he, rfl⟩))]
      exact ih hd.2 he hk
theorem look_mem {l : List MapEntry} {k : Int} {v : Value} (h : look l k = some v) : ∃ e ∈ l, e.key = .int .i64 k ∧ e.val = v := by
  induction l with
  | nil => cases h
  | cons a l ih =>
    rw [look] at h
    split at h
    · rename_i hk
      exact ⟨a, by simp, isAt_iff.1 hk, by simpa using h⟩
    · obtain ⟨e, he, h1, h2⟩ := ih h
      exact ⟨e, by simp [he], h1, h2⟩
/-- block b of w is a map keyed by ints that answers f -/
def IMap (w : World) (b : Nat) (f : Int → Option Value) : Prop :=
  ∃ es clock, w.heap[b]? = some (.map es clock) ∧ Stamped es clock ∧ (∀ x ∈ es.toList, IsKey (.int .i64) x.key) ∧ ∀ k, look es.toList k = f k
theorem isKey_form {v : Value} (h : IsKey (.int .i64) v) : ∃ k, v = .int .i64 k := by
  cases v <;> simp_all [IsKey]
theorem IMap.lt {w : World} {b : Nat} {f : Int → Option Value} (h : IMap w b f) : b < w.heap.size := by
  obtain ⟨es, clock, hb, _⟩ := h
  exact (Array.getElem?_eq_some_iff.1 hb).1
theorem IMap.of_block {w w1 : World} {b : Nat} {f : Int → Option Value} (h : IMap w b f) (hb : w1.heap[b]? = w.heap[b]?) : IMap w1 b f := by
  obtain ⟨es, clock, h1, h2⟩ := h
  exact ⟨es, clock, hb.trans h1, h2⟩
theorem IMap.made (w : World) : IMap (w.alloc (.map #[] 0)) w.heap.size fun _ => none :=
  ⟨#[], 0, heap_alloc_new w _, stamped_empty 0, by simp, fun _ => rfl⟩
theorem IMap.only {w w1 : World} {S : Nat → Prop} {b : Nat} {f : Int → Option Value} (h : IMap w b f) (ho : Only w w1 S) (hn : ¬ S b) : IMap w1 b f := h.of_block (ho.block b h.lt hn)

/-- block b holds another object; all else is as it was -/
def Turned (w w1 : World) (b : Nat) : Prop := w1.os = w.os ∧ w1.tape = w.tape ∧ w1.output = w.output ∧ w1.heap.size = w.heap.size ∧ ∀ k, k ≠ b → w1.heap[k]? = w.heap[k]?
theorem Turned.only {w w1 : World} {b : Nat} {S : Nat → Prop} (h : Turned w w1 b) (hs : S b) : Only w w1 S :=
  ⟨h.1, h.2.1, h.2.2.1, by rw [h.2.2.2.1]; exact Nat.le_refl _, fun k _ hk => h.2.2.2.2 k (fun e => hk (e ▸ hs))⟩
theorem Turned.cell {w w1 : World} {b : Nat} (h : Turned w w1 b) {p : Addr} (hp : p.block ≠ b) : w1.cell? p = w.cell? p := World.cell?_of_block (w := w) (h.2.2.2.2 _ hp)
theorem Turned.frozen {w w1 : World} {b : Nat} (h : Turned w w1 b) {p : Addr} (hp : p.block ≠ b) : w1.frozen? p = w.frozen? p := World.frozen?_of_block (w := w) (h.2.2.2.2 _ hp)
theorem turned_set {w : World} {b : Nat} {o o' : Obj} (hb : w.heap[b]? = some o) : Turned w { w with heap := w.heap.setIfInBounds b o' } b :=
  ⟨rfl, rfl, rfl, by simp, fun k hk => (heap_set hb).2 k hk⟩

section
variable {P : Program} {w : World} {b : Nat} {f : Int → Option Value} {t K E : TypeId} (ht : P.underlying t = some (.map K E)) (hK : P.underlying K = some (.int .i64))
include ht hK
theorem IMap.run_lookup2 (h : IMap w b f) (z : Value) (hz : (zeroValue E).run P w = .ok z w) (k : Int) :
    (Instr.lookup t (.map (some b)) (.int .i64 k) true).run P w = .ok (.tuple #[(f k).getD z, .bool (f k).isSome]) w := by
  obtain ⟨es, clock, hb, hs, hk, hf⟩ := h
  have hkey : IsKey (.int .i64) (.int .i64 k) := rfl
  rcases findNow_spec hkey es.toList 0 hk with ⟨h1, h2⟩ | ⟨j, e, h1, h2, h3⟩
  · have : f k = none := by rw [← hf k]; exact look_none h2
    simp [Instr.lookup, run_underlying ht, Go.MapKept.run_getObj_map hb, run_checkKey hK hkey, run_findKey hK h1, hz, Result.andThen, this]
  · have : f k = some e.val := by rw [← hf k]; exact look_some hs.2.2 (List.mem_of_getElem? h2) h3
    simp [Instr.lookup, run_underlying ht, Go.MapKept.run_getObj_map hb, run_checkKey hK hkey, run_findKey hK h1, Result.andThen, this]
theorem IMap.run_lookup1 (h : IMap w b f) (z : Value) (hz : (zeroValue E).run P w = .ok z w) (k : Int) :
    (Instr.lookup t (.map (some b)) (.int .i64 k) false).run P w = .ok ((f k).getD z) w := by
  obtain ⟨es, clock, hb, hs, hk, hf⟩ := h
  have hkey : IsKey (.int .i64) (.int .i64 k) := rfl
  rcases findNow_spec hkey es.toList 0 hk with ⟨h1, h2⟩ | ⟨j, e, h1, h2, h3⟩
  · have : f k = none := by rw [← hf k]; exact look_none h2
    simp [Instr.lookup, run_underlying ht, Go.MapKept.run_getObj_map hb, run_checkKey hK hkey, run_findKey hK h1, hz, Result.andThen, this]
  · have : f k = some e.val := by rw [← hf k]; exact look_some hs.2.2 (List.mem_of_getElem? h2) h3
    simp [Instr.lookup, run_underlying ht, Go.MapKept.run_getObj_map hb, run_checkKey hK hkey, run_findKey hK h1, Result.andThen, this]
theorem IMap.run_update (h : IMap w b f) (k : Int) (v : Value) :
    ∃ w1, (Instr.mapUpdate t (.map (some b)) (.int .i64 k) v).run P w = .ok () w1 ∧ IMap w1 b (fun j => if j = k then some v else f j) ∧ Turned w w1 b ∧ w1.drawn = w.drawn := by
  obtain ⟨es, clock, hb, hs, hk, hf⟩ := h
  have hkey : IsKey (.int .i64) (.int .i64 k) := rfl
  rcases findNow_spec hkey es.toList 0 hk with ⟨h1, h2⟩ | ⟨j, e, h1, h2, h3⟩
  · refine ⟨_, by simp [Instr.mapUpdate, run_underlying ht, Go.MapKept.run_getObj_map hb, run_checkKey hK hkey, run_findKey hK h1, Go.MapKept.run_setObj_map _ hb, Result.andThen]; rfl, ?_, turned_set hb, rfl⟩
    refine ⟨_, _, (heap_set hb).1, stamped_push hs h2, ?_, fun q => ?_⟩
    · intro x hx
      simp only [Array.toList_push, List.mem_append, List.mem_singleton] at hx
      rcases hx with hx | rfl
      · exact hk x hx
      · exact hkey
    · dsimp only
      rw [← hf q]
      have hp := stamped_push (val := v) hs h2
      by_cases hq : q = k
      · subst hq
        rw [if_pos rfl]
        exact look_some (e := { key := .int .i64 q, val := v, born := clock }) hp.2.2 (by simp) rfl
      · rw [if_neg hq]
        cases hl : look es.toList q with
        | none =>
          refine look_none fun x hx => ?_
          simp only [Array.toList_push, List.mem_append, List.mem_singleton] at hx
          rcases hx with hx | rfl
          · intro e
            rw [look_some hs.2.2 hx e] at hl
            cases hl
          · intro e
            injection e with _ e
            exact hq e.symm
        | some u =>
          obtain ⟨e, he, h1, h2⟩ := look_mem hl
          rw [← h2]
          exact look_some hp.2.2 (by simp [he]) h1
  · have hj : es[j]? = some e := by simpa using h2
    refine ⟨_, by simp [Instr.mapUpdate, run_underlying ht, Go.MapKept.run_getObj_map hb, run_checkKey hK hkey, run_findKey hK h1, hj, h3, run_keyThatStays hkey, Go.MapKept.run_setObj_map _ hb, Result.andThen]; rfl, ?_, turned_set hb, rfl⟩
    have hk' : ∀ e', es[j]? = some e' → ({ e' with key := .int .i64 k, val := v } : MapEntry).key = e'.key := fun e' he' => by rw [hj] at he'; cases he'; exact h3.symm
    have hst := stamped_modify hs j (fun e => { e with key := .int .i64 k, val := v }) (fun _ _ => rfl) (fun e' _ he' => hk' e' he')
    refine ⟨_, _, (heap_set hb).1, hst, isKey_modify hk _ _ hk', fun q => ?_⟩
    dsimp only
    rw [← hf q]
    have hmem : ∀ x, x ∈ (es.modify j fun e => { e with key := .int .i64 k, val := v }).toList ↔ ∃ i, (if i = j then (es[i]?).map (fun e => { e with key := .int .i64 k, val := v }) else es[i]?) = some x := by
      intro x
      rw [Array.mem_toList_iff, Array.mem_iff_getElem?]
      simp only [Array.getElem?_modify]
      have hsw : ∀ i, (if j = i then (es[i]?).map (fun e => ({ e with key := .int .i64 k, val := v } : MapEntry)) else es[i]?) = (if i = j then (es[i]?).map (fun e => { e with key := .int .i64 k, val := v }) else es[i]?) := by
        intro i
        by_cases hij : i = j
        · rw [if_pos hij, if_pos hij.symm]
        · rw [if_neg hij, if_neg (fun q => hij q.symm)]
      simp only [hsw]
    by_cases hq : q = k
    · subst hq
      rw [if_pos rfl]
      exact look_some (e := { e with key := .int .i64 q, val := v }) hst.2.2 ((hmem _).2 ⟨j, by simp [hj]⟩) rfl
    · rw [if_neg hq]
      cases hl : look es.toList q with
      | none =>
        refine look_none fun x hx he => ?_
        obtain ⟨i, hi⟩ := (hmem x).1 hx
        split at hi
        · rename_i hij
          subst hij
          rw [hj] at hi
          simp only [Option.map_some, Option.some.injEq] at hi
          subst hi
          injection he with _ he
          exact hq he.symm
        · rw [look_some hs.2.2 (Array.mem_toList_iff.2 (Array.mem_of_getElem? hi)) he] at hl
          cases hl
      | some u =>
        obtain ⟨e', he', h1', h2'⟩ := look_mem hl
        rw [← h2']
        obtain ⟨i, hi⟩ := List.mem_iff_getElem?.1 he'
        have hi' : es[i]? = some e' := by simpa using hi
        refine look_some hst.2.2 ((hmem e').2 ⟨i, ?_⟩) h1'
        rw [if_neg, hi']
        rintro rfl
        rw [hj] at hi'
        cases hi'
        rw [h3] at h1'
        injection h1' with _ h1'
        exact hq h1'.symm
theorem IMap.run_delete (h : IMap w b f) (ty : TypeId) (t' : TypeId) (k : Int) :
    ∃ w1, (Builtin.delete_ #[t, t'] ty #[.map (some b), .int .i64 k]).run P w = .ok (.tuple #[]) w1 ∧ IMap w1 b (fun j => if j = k then none else f j) ∧ Turned w w1 b ∧ w1.drawn = w.drawn := by
  obtain ⟨es, clock, hb, hs, hk, hf⟩ := h
  have hkey : IsKey (.int .i64) (.int .i64 k) := rfl
  rcases findNow_spec hkey es.toList 0 hk with ⟨h1, h2⟩ | ⟨j, e, h1, h2, h3⟩
  · refine ⟨_, by simp [Builtin.delete_, run_underlying ht, Go.MapKept.run_getObj_map hb, run_checkKey hK hkey, run_findKey hK h1, Go.MapKept.run_setObj_map _ hb, Result.andThen]; rfl, ?_, turned_set hb, rfl⟩
    refine ⟨_, _, (heap_set hb).1, hs, hk, fun q => ?_⟩
    dsimp only
    by_cases hq : q = k
    · subst hq
      rw [if_pos rfl]
      exact look_none h2
    · rw [if_neg hq]
      exact hf q
  · have hj : es[j]? = some e := by simpa using h2
    refine ⟨_, by simp [Builtin.delete_, run_underlying ht, Go.MapKept.run_getObj_map hb, run_checkKey hK hkey, run_findKey hK h1, Go.MapKept.run_setObj_map _ hb, Result.andThen]; rfl, ?_, turned_set hb, rfl⟩
    have hjlt : j < es.size := (Array.getElem?_eq_some_iff.1 hj).1
    have hl : (es.eraseIdxIfInBounds j).toList = es.toList.eraseIdx j := by
      unfold Array.eraseIdxIfInBounds
      rw [dif_pos hjlt]
      simp
    have hst := stamped_erase hs j
    have hsub : ∀ x, x ∈ es.toList.eraseIdx j → x ∈ es.toList := fun x hx => (List.eraseIdx_sublist _ _).subset hx
    refine ⟨_, _, (heap_set hb).1, hst, fun x hx => hk x (hsub x (by rw [← hl]; exact hx)), fun q => ?_⟩
    dsimp only
    rw [hl]
    have hnd : (es.toList.eraseIdx j).map (·.key) |>.Nodup := by rw [← hl]; exact hst.2.2
    have hperm : es.toList.Perm (e :: es.toList.eraseIdx j) := by
      obtain ⟨hj', he⟩ := List.getElem?_eq_some_iff.1 h2
      have e1 : es.toList = es.toList.take j ++ e :: es.toList.drop (j + 1) := by
        rw [← he, List.getElem_cons_drop, List.take_append_drop]
      have e2 : es.toList.eraseIdx j = es.toList.take j ++ es.toList.drop (j + 1) := List.eraseIdx_eq_take_drop_succ _ _
      rw [e2]
      refine (List.Perm.of_eq e1).trans ?_
      exact List.perm_middle
    have hnot : ∀ x ∈ es.toList.eraseIdx j, x.key ≠ .int .i64 k := by
      intro x hx hxk
      have hn : ((e :: es.toList.eraseIdx j).map (·.key)).Nodup := (hperm.map _).nodup_iff.1 hs.2.2
      simp only [List.map_cons, List.nodup_cons] at hn
      exact hn.1 (by rw [h3, ← hxk]; exact List.mem_map.2 ⟨x, hx, rfl⟩)
    by_cases hq : q = k
    · subst hq
      rw [if_pos rfl]
      exact look_none hnot
    · rw [if_neg hq, ← hf q]
      cases hlq : look es.toList q with
      | none =>
        refine look_none fun x hx he => ?_
        rw [look_some hs.2.2 (hsub x hx) he] at hlq
        cases hlq
      | some u =>
        obtain ⟨e', he', h1', h2'⟩ := look_mem hlq
        rw [← h2']
        refine look_some hnd ?_ h1'
        rcases List.mem_cons.1 (hperm.mem_iff.1 he') with rfl | hm
        · rw [h3] at h1'
          injection h1' with _ h1'
          exact absurd h1'.symm hq
        · exact hm
end
end Go.Proofs.Ytfahoomkpammiaa
