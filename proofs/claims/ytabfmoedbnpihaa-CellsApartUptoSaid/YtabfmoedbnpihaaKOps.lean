/- What comes in: lists of calls (Op), read cell by cell. -/
import Derived.Test.YtabfmoedbnpihaaKPlaces
import Derived.Test.YtabfmoedbnpihaaKArgs
namespace Go.Proofs.Ytabfmoedbnpihaa
open Go.ChangeShapes Go.WideShapes Go.ChangeAt Go.RowKit Go.Deep

theorem add0 (a : Addr) : a.add 0 = a := by simp [Addr.add]
theorem list9 {cs : List Value} (h : cs.length = 9) : ∃ a b c d e f g i j, cs = [a, b, c, d, e, f, g, i, j] := by
  match cs, h with
  | [a, b, c, d, e, f, g, i, j], _ => exact ⟨a, b, c, d, e, f, g, i, j, rfl⟩
theorem list2 {cs : List Value} (h : cs.length = 2) : ∃ a b, cs = [a, b] := by
  match cs, h with
  | [a, b], _ => exact ⟨a, b, rfl⟩
theorem cellsOfInt : Try.prog.cellsOf 3 = 1 := by kernel_rfl
theorem cellsOfBool : Try.prog.cellsOf 4 = 1 := by kernel_rfl
theorem cellsOfInts : Try.prog.cellsOf 39 = 1 := by kernel_rfl
theorem cellsOfValue : Try.prog.cellsOf 32 = 2 := by kernel_rfl
theorem cellsOfOp : Try.prog.cellsOf 56 = 9 := by kernel_rfl

section
variable {H : Type} {enc : TypeId × Value → H} {W : World} {sp : Nat → Bool} {held : Bool}
theorem sp_plain {a : Addr} {v : Value} (h : W.cell? (a.add 0) = some v) : a = ⟨a.block, a.off, none⟩ := by
  obtain ⟨p0, _⟩ := plain_addr h
  have e : a.add 0 = a := by simp [Addr.add]
  exact e.symm.trans p0
theorem ints_open {base fuel : Nat} {B : Option Addr} {ln cp : Nat} {x : DataW H × List MemPlace} (h : DataW.trod enc Try.prog W base sp held fuel 39 [.slice B ln cp] = some x) :
    ln ≤ 9223372036854775807 ∧ ∃ xs, Ints W B ln xs := by
  rcases open_slice Try.underlying39 h with ⟨hcs, _⟩ | ⟨a, len, cap, m, n, D, Pl, hcs, _, hl, hm, hmm, _, hi⟩
  · simp at hcs
    obtain ⟨rfl, rfl, rfl⟩ := hcs
    exact ⟨by omega, [], rfl, fun i x h => by simp at h⟩
  · simp at hcs
    obtain ⟨rfl, rfl, rfl⟩ := hcs
    have hlm : ln ≤ m := by rw [hmm]; split <;> omega
    refine ⟨by unfold maxLen at hm; omega, ?_⟩
    have each : ∀ i, i < ln → ∃ x : Int, ∃ b o, some a = some ⟨b, o, none⟩ ∧ b < W.heap.size ∧ W.cell? ⟨b, o + i, none⟩ = some (.int .i64 x) := by
      intro i hin
      obtain ⟨cs', hc, ht⟩ := hi i (by omega)
      obtain ⟨x0, e0, _, _⟩ := DataW.trod_int Try.underlying3 ht
      obtain ⟨_, hcl, hat⟩ := World.cells?_some hc
      rw [cellsOfInt] at hat hcl
      have h0 := hat 0 Nat.one_pos
      rw [e0] at h0
      simp only [Nat.mul_one, List.getElem?_cons_zero, add0] at h0
      obtain ⟨p0, hb⟩ := plain_addr h0
      have hm0 : 0 < m := Nat.lt_of_lt_of_le (Nat.lt_of_le_of_lt (Nat.zero_le _) hin) hlm
      obtain ⟨z, hz⟩ : ∃ z : Nat, z = 0 := ⟨0, rfl⟩
      obtain ⟨cs1, hc1, ht1⟩ := hi z (by rw [hz]; exact hm0)
      obtain ⟨_, hcl1, hat1⟩ := World.cells?_some hc1
      rw [cellsOfInt] at hat1 hcl1
      have h1 := hat1 0 Nat.one_pos
      obtain ⟨x1, e1, _, _⟩ := DataW.trod_int Try.underlying3 ht1
      rw [e1, hz] at h1
      simp only [Nat.mul_one, List.getElem?_cons_zero, add0] at h1
      have ha := sp_plain (v := .int .i64 x1) (by rw [add0]; exact h1)
      rw [p0] at h0
      exact ⟨x0, a.block, a.off, by rw [← ha], hb, h0⟩
    refine ⟨(List.range ln).map fun i => if h : i < ln then (each i h).choose else 0, by simp, fun i x hx => ?_⟩
    have hin : i < ln := by
      have := (List.getElem?_eq_some_iff.1 hx).1
      simpa using this
    have hx' : x = (each i hin).choose := by
      rw [List.getElem?_map, List.getElem?_range hin, Option.map_some, dif_pos hin] at hx
      injection hx with hx
      exact hx.symm
    subst hx'
    exact (each i hin).choose_spec
theorem value_open {base fuel : Nat} {cs : List Value} {x : DataW H × List MemPlace} (h : DataW.trod enc Try.prog W base sp held fuel 32 cs = some x) : ∃ v : Int × Int, cs = [.int .i64 v.1, .int .i64 v.2] := by
  obtain ⟨ys, n, _, _, hl, hyl, hf⟩ := DataW.trod_struct Try.underlying32 h
  rw [cellsOfValue] at hl
  obtain ⟨a, b, rfl⟩ := list2 hl
  have h0 : DataW.trod enc Try.prog W base sp held n 3 (([a, b].drop 0).take (Try.prog.cellsOf 3)) = ys[0]? := hf 0 _ rfl
  rw [cellsOfInt] at h0
  have h1 : DataW.trod enc Try.prog W base sp held n 3 (([a, b].drop 1).take (Try.prog.cellsOf 3)) = ys[1]? := hf 1 _ rfl
  rw [cellsOfInt] at h1
  have hyl' : ys.length = 2 := hyl
  rw [List.getElem?_eq_getElem (by omega)] at h0 h1
  obtain ⟨x0, e0, _⟩ := DataW.trod_int Try.underlying3 h0
  obtain ⟨x1, e1, _⟩ := DataW.trod_int Try.underlying3 h1
  simp at e0 e1
  exact ⟨(x0, x1), by rw [e0, e1]⟩
theorem slice_form {base fuel : Nat} {v : Value} {x : DataW H × List MemPlace} (h : DataW.trod enc Try.prog W base sp held fuel 39 [v] = some x) : ∃ B ln cp, v = .slice B ln cp := by
  rcases open_slice Try.underlying39 h with ⟨hcs, _⟩ | ⟨a, len, cap, m, n, D, Pl, hcs, _⟩
  · simp at hcs; exact ⟨_, _, _, hcs⟩
  · simp at hcs; exact ⟨_, _, _, hcs⟩
theorem op_open {base fuel : Nat} {cs : List Value} {x : DataW H × List MemPlace} (h : DataW.trod enc Try.prog W base sp held fuel 56 cs = some x) :
    ∃ y : InOp, cs = [.int .i64 y.o.kind, .int .i64 y.o.on, .int .i64 y.o.n, .bool y.o.heap, .int .i64 y.o.v.1, .int .i64 y.o.v.2, .int .i64 y.o.w.1, .int .i64 y.o.w.2, .slice y.B y.ln y.cp] ∧ Ints W y.B y.ln y.o.cells ∧ y.ln ≤ 9223372036854775807 := by
  obtain ⟨ys, n, _, _, hl, hyl, hf⟩ := DataW.trod_struct Try.underlying56 h
  rw [cellsOfOp] at hl
  obtain ⟨a, b, c, d, e, f, g, i, j, rfl⟩ := list9 hl
  have h0 : DataW.trod enc Try.prog W base sp held n 3 (([a, b, c, d, e, f, g, i, j].drop 0).take (Try.prog.cellsOf 3)) = ys[0]? := hf 0 _ rfl
  rw [cellsOfInt] at h0
  have h1 : DataW.trod enc Try.prog W base sp held n 3 (([a, b, c, d, e, f, g, i, j].drop 1).take (Try.prog.cellsOf 3)) = ys[1]? := hf 1 _ rfl
  rw [cellsOfInt] at h1
  have h2 : DataW.trod enc Try.prog W base sp held n 3 (([a, b, c, d, e, f, g, i, j].drop 2).take (Try.prog.cellsOf 3)) = ys[2]? := hf 2 _ rfl
  rw [cellsOfInt] at h2
  have h3 : DataW.trod enc Try.prog W base sp held n 4 (([a, b, c, d, e, f, g, i, j].drop 3).take (Try.prog.cellsOf 4)) = ys[3]? := hf 3 _ rfl
  rw [cellsOfBool] at h3
  have h4 : DataW.trod enc Try.prog W base sp held n 32 (([a, b, c, d, e, f, g, i, j].drop 4).take (Try.prog.cellsOf 32)) = ys[4]? := hf 4 _ rfl
  rw [cellsOfValue] at h4
  have h5 : DataW.trod enc Try.prog W base sp held n 32 (([a, b, c, d, e, f, g, i, j].drop 6).take (Try.prog.cellsOf 32)) = ys[5]? := hf 5 _ rfl
  rw [cellsOfValue] at h5
  have h6 : DataW.trod enc Try.prog W base sp held n 39 (([a, b, c, d, e, f, g, i, j].drop 8).take (Try.prog.cellsOf 39)) = ys[6]? := hf 6 _ rfl
  rw [cellsOfInts] at h6
  have hyl' : ys.length = 7 := hyl
  rw [List.getElem?_eq_getElem (by omega)] at h0 h1 h2 h3 h4 h5 h6
  obtain ⟨x0, e0, _⟩ := DataW.trod_int Try.underlying3 h0
  obtain ⟨x1, e1, _⟩ := DataW.trod_int Try.underlying3 h1
  obtain ⟨x2, e2, _⟩ := DataW.trod_int Try.underlying3 h2
  obtain ⟨x3, e3, _⟩ := DataW.trod_bool Try.underlying4 h3
  obtain ⟨x4, e4⟩ := value_open h4
  obtain ⟨x5, e5⟩ := value_open h5
  simp at e0 e1 e2 e3 e4 e5
  have h6' : DataW.trod enc Try.prog W base sp held n 39 [j] = some ys[6] := h6
  obtain ⟨B, ln, cp, rfl⟩ := slice_form h6'
  obtain ⟨hn, xs, hxs⟩ := ints_open h6'
  exact ⟨⟨⟨x0, x1, x2, x3, x4, x5, xs⟩, B, ln, cp⟩, by simp [e0, e1, e2, e3, e4, e5], hxs, hn⟩
theorem ops_of {A : Option Addr} {n C : Nat} {d : DataW H} {p : List MemPlace}
    (h : DataW.Trod enc Try.prog W 0 (fun _ => true) true 51 (.slice A n C) d p) : (∃ el sp, n ≤ el.length ∧ (d = .slice el sp ∨ n = 0)) ∧ ∃ xs, Ops W A n xs := by
  obtain ⟨fuel, hf⟩ := h
  rcases open_slice Try.underlying51 hf with ⟨hcs, _⟩ | ⟨a, len, cap, m, k, D, Pl, hcs, _, hl, hm, hmm, hx, hi⟩
  · simp [Value.cells] at hcs
    obtain ⟨rfl, rfl, rfl⟩ := hcs
    exact ⟨⟨[], [], Nat.le_refl _, .inr rfl⟩, [], rfl, fun i x h => by simp at h⟩
  · simp [Value.cells] at hcs
    obtain ⟨rfl, rfl, rfl⟩ := hcs
    have hm' : m = C := by simpa using hmm
    refine ⟨⟨_, _, by simp, .inl (congrArg Prod.fst hx)⟩, ?_⟩
    have one : ∀ i, i < n → ∃ y : InOp, (∀ j v, ([.int .i64 y.o.kind, .int .i64 y.o.on, .int .i64 y.o.n, .bool y.o.heap, .int .i64 y.o.v.1, .int .i64 y.o.v.2, .int .i64 y.o.w.1, .int .i64 y.o.w.2, .slice y.B y.ln y.cp] : List Value)[j]? = some v → W.cell? (a.add (i * 9 + j)) = some v) ∧ Ints W y.B y.ln y.o.cells ∧ y.ln ≤ 9223372036854775807 := by
      intro i hin
      obtain ⟨cs', hc, ht⟩ := hi i (by omega)
      obtain ⟨y, hy, h1, h2⟩ := op_open ht
      obtain ⟨_, hcl, hat⟩ := World.cells?_some hc
      rw [cellsOfOp] at hat hcl
      refine ⟨y, fun j v hj => ?_, h1, h2⟩
      have hj9 : j < 9 := (List.getElem?_eq_some_iff.1 hj).1
      have := hat j hj9
      rw [hy, hj, Go.Deep.add_add] at this
      exact this
    have hsp : 0 < n → a = ⟨a.block, a.off, none⟩ := fun h0 => by
      obtain ⟨y, hy, _⟩ := one 0 h0
      exact sp_plain (hy 0 _ rfl)
    refine ⟨(List.range n).map fun i => if h : i < n then (one i h).choose else ⟨⟨0, 0, 0, false, (0, 0), (0, 0), []⟩, none, 0, 0⟩, by simp, fun i x hx => ?_⟩
    have hin : i < n := by
      have := (List.getElem?_eq_some_iff.1 hx).1
      simpa using this
    have hx' : x = (one i hin).choose := by
      rw [List.getElem?_map, List.getElem?_range hin, Option.map_some, dif_pos hin] at hx
      injection hx with hx
      exact hx.symm
    subst hx'
    obtain ⟨g, g1, g2⟩ := (one i hin).choose_spec
    have at' : ∀ j v, ([.int .i64 (one i hin).choose.o.kind, .int .i64 (one i hin).choose.o.on, .int .i64 (one i hin).choose.o.n, .bool (one i hin).choose.o.heap, .int .i64 (one i hin).choose.o.v.1, .int .i64 (one i hin).choose.o.v.2, .int .i64 (one i hin).choose.o.w.1, .int .i64 (one i hin).choose.o.w.2, .slice (one i hin).choose.B (one i hin).choose.ln (one i hin).choose.cp] : List Value)[j]? = some v → W.cell? ⟨a.block, a.off + i * 9 + j, none⟩ = some v := fun j v hj => by
      have h0 := g j v hj
      rw [(plain_addr h0).1] at h0
      rw [Nat.add_assoc]
      exact h0
    exact ⟨a.block, a.off, by rw [← hsp (by omega)], (plain_addr (g 0 _ rfl)).2, at' 0 _ rfl, at' 1 _ rfl, at' 2 _ rfl, at' 3 _ rfl, at' 4 _ rfl, at' 5 _ rfl, at' 6 _ rfl, at' 7 _ rfl, at' 8 _ rfl, g1, g2⟩
end
end Go.Proofs.Ytabfmoedbnpihaa
