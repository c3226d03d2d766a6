/- A step towards the laws on the cells of a run: ranging over a map keyed by ints, in whatever order the tape gives. No conditions of its own beyond those that its theorems name. -/
import Derived.Test.YtabfmoedbnpihaaKUtil
import Derived.Maps.RangeRun
namespace Go.Proofs.Ytabfmoedbnpihaa
open Go.RowKit Go.MapKept
open Go.ChangeMaps (setBlock)

theorem nodup_inj {α β : Type} {g : α → β} {l : List α} (h : (l.map g).Nodup) {a b : α} (ha : a ∈ l) (hb : b ∈ l) (e : g a = g b) : a = b := by
  induction l with
  | nil => cases ha
  | cons x l ih =>
    simp only [List.map_cons, List.nodup_cons] at h
    rcases List.mem_cons.1 ha with ea | ha'
    · rcases List.mem_cons.1 hb with eb | hb'
      · rw [ea, eb]
      · exact absurd (List.mem_map.2 ⟨b, hb', by rw [← e, ea]⟩) h.1
    · rcases List.mem_cons.1 hb with eb | hb'
      · exact absurd (List.mem_map.2 ⟨a, ha', by rw [e, eb]⟩) h.1
      · exact ih h.2 ha' hb'

/-- the iterator at block it ranges over the map at block bm (that answers f); done: the keys that have come; cnt: how many are to come -/
def Iter (w : World) (it bm : Nat) (f : Int → Option Value) (done : List Int) (cnt : Nat) : Prop :=
  ∃ es clock since seen c0, w.heap[bm]? = some (.map es clock) ∧ Stamped es clock ∧ (∀ x ∈ es.toList, IsKey (.int .i64) x.key) ∧ (∀ k, look es.toList k = f k) ∧
    w.heap[it]? = some (.mapIter (some bm) since seen c0) ∧ (∀ x ∈ es.toList, x.born < since) ∧ since ≤ c0 ∧ since ≤ clock ∧ (leftOf es seen).size = cnt ∧
    ∀ x ∈ es.toList, ∀ k, x.key = .int .i64 k → (seen.contains x.born = true ↔ k ∈ done)

section
variable {P : Program} {w : World} {it bm : Nat} {f : Int → Option Value} {done : List Int} {cnt : Nat}
theorem Iter.of_blocks {w1 : World} (h : Iter w it bm f done cnt) (h1 : w1.heap[bm]? = w.heap[bm]?) (h2 : w1.heap[it]? = w.heap[it]?) : Iter w1 it bm f done cnt := by
  obtain ⟨es, clock, since, seen, c0, a, b, c, d, e, g⟩ := h
  exact ⟨es, clock, since, seen, c0, h1.trans a, b, c, d, h2.trans e, g⟩
theorem Iter.imap (h : Iter w it bm f done cnt) : IMap w bm f := by
  obtain ⟨es, clock, since, seen, c0, a, b, c, d, e, g⟩ := h
  exact ⟨es, clock, a, b, c, d⟩
theorem IMap.run_range {t K E : TypeId} (ht : P.underlying t = some (.map K E)) (h : IMap w bm f) :
    (Instr.range t (.map (some bm))).run P w = .ok (.pointer (some ⟨w.heap.size, 0, none⟩)) (w.alloc (match w.heap[bm]? with | some (.map _ clock) => .mapIter (some bm) clock #[] clock | _ => .mapIter none 0 #[] 0)) ∧
    ∃ cnt, Iter (w.alloc (match w.heap[bm]? with | some (.map _ clock) => .mapIter (some bm) clock #[] clock | _ => .mapIter none 0 #[] 0)) w.heap.size bm f [] cnt := by
  have hlt := h.lt
  obtain ⟨es, clock, a, b, c, d⟩ := h
  rw [a]
  refine ⟨run_range_map w t K E bm es clock ht a, _, es, clock, clock, #[], clock, (Below.heap_alloc w _ bm hlt).trans a, b, c, d, heap_alloc_new w _, b.1, Nat.le_refl _, Nat.le_refl _, rfl, ?_⟩
  intro x hx k hk
  simp
theorem Iter.next (h : Iter w it bm f done cnt) (hne : it ≠ bm) (ty : TypeId) :
    ((∀ k, f k ≠ none → k ∈ done) ∧ (Instr.next (.pointer (some ⟨it, 0, none⟩)) false ty).run P w = .ok (.tuple #[.bool false]) w) ∨
    ∃ (k : Int) (v : Value) (w1 : World) (cnt1 : Nat), (Instr.next (.pointer (some ⟨it, 0, none⟩)) false ty).run P w = .ok (.tuple #[.bool true, .int .i64 k, v]) w1 ∧ f k = some v ∧ k ∉ done ∧
      Iter w1 it bm f (k :: done) cnt1 ∧ cnt1 < cnt ∧ Turned w w1 it ∧ (Instr.entry (.pointer (some ⟨it, 0, none⟩))).run P w1 = .ok (.tuple #[.int .i64 k, v]) w1 := by
  obtain ⟨es, clock, since, seen, c0, a, b, c, d, e, g, hsc, hs2, hcnt, hdone⟩ := h
  rcases run_next_at (P := P) w ty it bm since c0 seen es clock e a g hsc with ⟨h0, hrun⟩ | ⟨x, hx, w1, hal, hrun⟩
  · left
    refine ⟨fun k hk => ?_, hrun⟩
    cases hl : look es.toList k with
    | none => rw [d k] at hl; exact absurd hl hk
    | some v =>
      obtain ⟨y, hy, hyk, _⟩ := look_mem hl
      exact (hdone y hy k hyk).1 (all_seen es seen h0 y hy)
  · right
    obtain ⟨hxm, hxs⟩ := mem_left hx
    obtain ⟨k, hk⟩ := isKey_form (c x hxm)
    have hfk : f k = some x.val := by rw [← d k]; exact look_some b.2.2 hxm hk
    have hkd : k ∉ done := fun q => by
      have := (hdone x hxm k hk).2 q
      rw [hxs] at this
      cases this
    have hw1 : w1.heap = w.heap ∧ w1.os = w.os ∧ w1.tape = w.tape ∧ w1.output = w.output := by rcases hal with rfl | rfl <;> exact ⟨rfl, rfl, rfl, rfl⟩
    have hset : (setBlock w1 it (.mapIter (some bm) since (seen.push x.born) clock)).heap = w.heap.setIfInBounds it (.mapIter (some bm) since (seen.push x.born) clock) := by
      show w1.heap.setIfInBounds it _ = _
      rw [hw1.1]
    have hit : (setBlock w1 it (.mapIter (some bm) since (seen.push x.born) clock)).heap[it]? = some (.mapIter (some bm) since (seen.push x.born) clock) := by
      rw [hset]
      exact (heap_set e).1
    have hoth : ∀ j, j ≠ it → (setBlock w1 it (.mapIter (some bm) since (seen.push x.born) clock)).heap[j]? = w.heap[j]? := by
      intro j hj
      rw [hset]
      exact (heap_set e).2 j hj
    rw [hk] at hrun
    refine ⟨k, x.val, _, (leftOf es (seen.push x.born)).size, hrun, hfk, hkd, ⟨es, clock, since, seen.push x.born, clock, (hoth bm (fun q => hne q.symm)).trans a, b, c, d, hit, g, ?_, ?_, rfl, ?_⟩, by rw [← hcnt]; exact left_shrinks es seen x hx, ?_, ?_⟩
    · exact hs2
    · exact hs2
    · intro y hy k' hk'
      rw [Array.contains_iff_mem, Array.mem_push, List.mem_cons]
      constructor
      · rintro (q | q)
        · exact .inr ((hdone y hy k' hk').1 (Array.contains_iff_mem.2 q))
        · have := nodup_inj b.2.1 hy hxm q
          subst this
          rw [hk] at hk'
          injection hk' with _ hk'
          exact .inl hk'.symm
      · rintro (q | q)
        · subst q
          have := nodup_inj b.2.2 hy hxm (hk'.trans hk.symm)
          subst this
          exact .inr rfl
        · exact .inl (Array.contains_iff_mem.1 ((hdone y hy k' hk').2 q))
    · exact ⟨hw1.2.1, hw1.2.2.1, hw1.2.2.2, by rw [hset]; simp, hoth⟩
    · have := run_entry_at (P := P) (setBlock w1 it (.mapIter (some bm) since (seen.push x.born) clock)) it bm since seen es clock x hit ((hoth bm (fun q => hne q.symm)).trans a) hxm b.2.1
      rw [hk] at this
      exact this
theorem wpl_next {ops : Array Oper} {rest : List Oper} {o : Oper} {a : Act} {Q : Exit → Act → World → Prop} (hg : o.guard = none) (x : Operand) (hop : o.op = Op.next x false) (hx : a.eval x = .pointer (some ⟨it, 0, none⟩)) (h : Iter w it bm f done cnt) (hne : it ≠ bm)
    (hDone : (∀ k, f k ≠ none → k ∈ done) → wpList P ops Q rest (a.put o.dst (.tuple #[.bool false])) w)
    (hMore : ∀ (k : Int) (v : Value) (w1 : World) (cnt1 : Nat), f k = some v → k ∉ done → Iter w1 it bm f (k :: done) cnt1 → cnt1 < cnt → Turned w w1 it → (Instr.entry (.pointer (some ⟨it, 0, none⟩))).run P w1 = .ok (.tuple #[.int .i64 k, v]) w1 →
      wpList P ops Q rest (a.put o.dst (.tuple #[.bool true, .int .i64 k, v])) w1) : wpList P ops Q (o :: rest) a w := by
  refine wpList_plain hg fun K hK => ?_
  unfold Oper.wp
  rcases h.next (P := P) hne o.type with ⟨hd, hrun⟩ | ⟨k, v, w1, cnt1, hrun, h1, h2, h3, h4, h5, h6⟩
  · simp [execOp, hop, hx, hrun, Result.andThen]
    exact hK _ _ (hDone hd)
  · simp [execOp, hop, hx, hrun, Result.andThen]
    exact hK _ _ (hMore k v w1 cnt1 h1 h2 h3 h4 h5 h6)
end
end Go.Proofs.Ytabfmoedbnpihaa
