/- A step towards the laws on the cells of a run: the contract of field. No conditions of its own beyond those that its theorems name. -/
import Derived.Test.YtabfmoedbnpihaaKRight
import Derived.BigRegion
import Derived.ChangeAlike
namespace Go.Proofs.Ytabfmoedbnpihaa
open Go.RowKit Go.MapKept

theorem Fresh.cell {w w1 : World} (h : Fresh w w1) {p : Nat} {cs : Array Value} {t : TypeId} (hb : w.heap[p]? = some (.cells cs t (0, 0))) : w1.heap[p]? = some (.cells cs t (0, 0)) := h.blk hb (fun q => q)
theorem zeroCell (w : World) : (zeroValue 68).run Try.prog w = .ok (.agg #[.slice none 0 0]) w := by kernel_rfl

set_option maxRecDepth 100000 in
set_option maxHeartbeats 400000 in
theorem field_wrong (w : World) (p : Nat) (gv cv fv : Value) (md : Nat) (k n i : Int)
    (h : w.heap[p]? = some (.cells #[gv, cv, .int .i64 md, fv] 66 (0, 0))) (hr : rightB md (k, n) = false) :
    Calls Try.prog 31 #[.pointer (some ⟨p, 0, none⟩), vv (k, n), .int .i64 i] w fun e w' => e = .returned (.tuple #[.pointer none, .int .i64 1]) ∧ Fresh w w' := by
  have hp := blk_lt h
  go_enter Try.func31, Try.ntmps31
  go_wp2_with (go_at_call 30; refine (right_any _ p _ _ _ md k n (blk_alloc h _)).mono ?_; rintro e w1 ⟨rfl, ho⟩)
  go_ret2
  exact ⟨rfl, ((Only.refl _ _).alloc _).trans' ho⟩

set_option maxRecDepth 100000 in
set_option maxHeartbeats 400000 in
theorem field_nil (w : World) (p : Nat) (gv cv fv : Value) (md : Nat) (k n i : Int)
    (h : w.heap[p]? = some (.cells #[gv, cv, .int .i64 md, fv] 66 (0, 0))) (hr : rightB md (k, n) = true) (hk : (k != 2) = true) :
    Calls Try.prog 31 #[.pointer (some ⟨p, 0, none⟩), vv (k, n), .int .i64 i] w fun e w' => e = .returned (.tuple #[.pointer none, .int .i64 31]) ∧ Fresh w w' := by
  have hp := blk_lt h
  go_enter Try.func31, Try.ntmps31
  go_wp2_with (go_at_call 30; refine (right_any _ p _ _ _ md k n (blk_alloc h _)).mono ?_; rintro e w1 ⟨rfl, ho⟩; have hb := ho.cell (new_blk _); have hb0 := blk_cell (i := 0) hb rfl)
  go_ret2
  exact ⟨rfl, ((Only.refl _ _).alloc _).trans' ho⟩

set_option maxRecDepth 100000 in
set_option maxHeartbeats 400000 in
theorem field_gone (w : World) (p bm : Nat) (gv fv : Value) (md : Nat) (k n i : Int) (f : Int → Option Value)
    (h : w.heap[p]? = some (.cells #[gv, .map (some bm), .int .i64 md, fv] 66 (0, 0))) (hm : IMap w bm f) (hr : rightB md (k, n) = true) (hk : (k != 2) = false) (hf : f n = none) :
    Calls Try.prog 31 #[.pointer (some ⟨p, 0, none⟩), vv (k, n), .int .i64 i] w fun e w' => e = .returned (.tuple #[.pointer none, .int .i64 32]) ∧ Fresh w w' := by
  have hp := blk_lt h
  go_enter Try.func31, Try.ntmps31
  go_wp2_with (go_at_call 30; refine (right_any _ p _ _ _ md k n (blk_alloc h _)).mono ?_; rintro e w1 ⟨rfl, ho⟩; have hb := ho.cell (new_blk _); have hb0 := blk_cell (i := 0) hb rfl; have hb1 := blk_cell (i := 1) hb rfl; have hp1 := ho.cell (blk_alloc h _); have hc1 := blk_cell (i := 1) hp1 rfl; have hz := blk_lt hb; have hpz := blk_lt hp1)
  have hm1 := (hm.of_block (Below.heap_alloc w (.cells #[.int .i64 k, .int .i64 n] 32) bm hm.lt)).only ho (fun q => q)
  have hl1 := IMap.run_lookup2 Try.underlying64 Try.underlying3 (w := w1.drew) hm1 _ (zeroCell _) n
  have hl2 := IMap.run_lookup2 Try.underlying64 Try.underlying3 (w := (w1.alloc (.cells #[.slice none 0 0] 68)).drew) (hm1.of_block (Below.heap_alloc w1 _ bm hm1.lt)) _ (zeroCell _) n
  rw [hf] at hl1 hl2
  simp only [Option.getD_none, Option.isSome_none] at hl1 hl2
  go_region
  all_goals (go_wp2; go_ret2; exact ⟨rfl, by repeat (first | exact ((Only.refl _ _).alloc _).trans' ho | refine Only.drew ?_ | refine Only.alloc ?_ _ | refine Only.setCell ?_ (.inr (by simp; omega)) _)⟩)

set_option maxRecDepth 100000 in
set_option maxHeartbeats 1000000 in
theorem field_none (w : World) (p bm cb L : Nat) (gv fv : Value) (md : Nat) (k n i : Int) (f : Int → Option Value)
    (h : w.heap[p]? = some (.cells #[gv, .map (some bm), .int .i64 md, fv] 66 (0, 0))) (hm : IMap w bm f) (hr : rightB md (k, n) = true) (hk : (k != 2) = false) (hf : f n = some (.agg #[.slice (some ⟨cb, 0, none⟩) L L]))
    (hi : i < 0 ∨ (L : Int) ≤ i) :
    Calls Try.prog 31 #[.pointer (some ⟨p, 0, none⟩), vv (k, n), .int .i64 i] w fun e w' => e = .returned (.tuple #[.pointer none, .int .i64 33]) ∧ Fresh w w' := by
  have hp := blk_lt h
  go_enter Try.func31, Try.ntmps31
  go_wp2_with (go_at_call 30; refine (right_any _ p _ _ _ md k n (blk_alloc h _)).mono ?_; rintro e w1 ⟨rfl, ho⟩; have hb := ho.cell (new_blk _); have hb0 := blk_cell (i := 0) hb rfl; have hb1 := blk_cell (i := 1) hb rfl; have hp1 := ho.cell (blk_alloc h _); have hc1 := blk_cell (i := 1) hp1 rfl; have hz := blk_lt hb; have hpz := blk_lt hp1)
  have hm1 := (hm.of_block (Below.heap_alloc w (.cells #[.int .i64 k, .int .i64 n] 32) bm hm.lt)).only ho (fun q => q)
  have hl1 := IMap.run_lookup2 Try.underlying64 Try.underlying3 (w := w1.drew) hm1 _ (zeroCell _) n
  have hl2 := IMap.run_lookup2 Try.underlying64 Try.underlying3 (w := (w1.alloc (.cells #[.slice none 0 0] 68)).drew) (hm1.of_block (Below.heap_alloc w1 _ bm hm1.lt)) _ (zeroCell _) n
  rw [hf] at hl1 hl2
  simp only [Option.getD_some, Option.isSome_some] at hl1 hl2
  clear hm hm1 hf
  go_region
  all_goals rcases hi with hi | hi
  all_goals (go_wp2; go_ret2; exact ⟨rfl, by repeat (first | exact ((Only.refl _ _).alloc _).trans' ho | refine Only.drew ?_ | refine Only.alloc ?_ _ | refine Only.setCell ?_ (.inr (by simp; omega)) _)⟩)

set_option maxRecDepth 100000 in
set_option maxHeartbeats 1000000 in
theorem field_ok (w : World) (p bm cb L : Nat) (gv fv : Value) (md : Nat) (k n : Int) (i : Nat) (f : Int → Option Value)
    (h : w.heap[p]? = some (.cells #[gv, .map (some bm), .int .i64 md, fv] 66 (0, 0))) (hm : IMap w bm f) (hr : rightB md (k, n) = true) (hk : (k != 2) = false) (hf : f n = some (.agg #[.slice (some ⟨cb, 0, none⟩) L L]))
    (hi : i < L) :
    Calls Try.prog 31 #[.pointer (some ⟨p, 0, none⟩), vv (k, n), .int .i64 i] w fun e w' => e = .returned (.tuple #[.pointer (some ⟨cb, i * 2, none⟩), .int .i64 0]) ∧ Fresh w w' := by
  have hp := blk_lt h
  have hi0 : decide ((i : Int) < 0) = false := by simp
  have hi1 : decide ((i : Int) ≥ L) = false := by simp; omega
  go_enter Try.func31, Try.ntmps31
  go_wp2_with (go_at_call 30; refine (right_any _ p _ _ _ md k n (blk_alloc h _)).mono ?_; rintro e w1 ⟨rfl, ho⟩; have hb := ho.cell (new_blk _); have hb0 := blk_cell (i := 0) hb rfl; have hb1 := blk_cell (i := 1) hb rfl; have hp1 := ho.cell (blk_alloc h _); have hc1 := blk_cell (i := 1) hp1 rfl; have hz := blk_lt hb; have hpz := blk_lt hp1)
  have hm1 := (hm.of_block (Below.heap_alloc w (.cells #[.int .i64 k, .int .i64 n] 32) bm hm.lt)).only ho (fun q => q)
  have hl1 := IMap.run_lookup2 Try.underlying64 Try.underlying3 (w := w1.drew) hm1 _ (zeroCell _) n
  have hl2 := IMap.run_lookup2 Try.underlying64 Try.underlying3 (w := (w1.alloc (.cells #[.slice none 0 0] 68)).drew) (hm1.of_block (Below.heap_alloc w1 _ bm hm1.lt)) _ (zeroCell _) n
  rw [hf] at hl1 hl2
  simp only [Option.getD_some, Option.isSome_some] at hl1 hl2
  clear hm hm1 hf
  go_region
  all_goals (go_wp2; go_ret2; exact ⟨rfl, by repeat (first | exact ((Only.refl _ _).alloc _).trans' ho | refine Only.drew ?_ | refine Only.alloc ?_ _ | refine Only.setCell ?_ (.inr (by simp; omega)) _)⟩)

/-- what a load or store of that field of that value says -/
def PM.err (M : PM) (x : Int × Int) (i : Int) : Int :=
  if rightB M.made x = false then 1 else if x.1 ≠ 2 then 31 else match M.cells x.2 with
    | none => 32
    | some l => if i < 0 ∨ (l.length : Int) ≤ i then 33 else 0

theorem cellIs_none {w : World} {lab : Lab} {k : Int} {a : Option Value} {b : Option (List (Int × Int))} (h : CellIs w lab k a b) (hb : b = none) : a = none := by
  subst hb
  cases a with
  | none => rfl
  | some v => exact h.elim
theorem cellIs_some {w : World} {lab : Lab} {k : Int} {a : Option Value} {b : Option (List (Int × Int))} {l : List (Int × Int)} (h : CellIs w lab k a b) (hb : b = some l) :
    ∃ cb, a = some (.agg #[.slice (some ⟨cb, 0, none⟩) l.length l.length]) ∧ w.heap[cb]? = some (.cells (flat l).toArray 32 (0, 0)) ∧ lab cb = some (5, k) ∧ l.length ≤ 8 := by
  subst hb
  cases a with
  | none => exact h.elim
  | some v =>
    obtain ⟨cb, rfl, h2, h3, h4⟩ := h
    exact ⟨cb, rfl, h2, h3, h4⟩

theorem field_bad {w : World} {p : Nat} {lab : Lab} {M : PM} (h : MemAt w p lab M) (x : Int × Int) (i : Int) (he : M.err x i ≠ 0) :
    Calls Try.prog 31 #[.pointer (some ⟨p, 0, none⟩), vv x, .int .i64 i] w fun e w' => e = .returned (.tuple #[.pointer none, .int .i64 (M.err x i)]) ∧ Fresh w w' := by
  obtain ⟨gb, bm, fv, vs, f, h⟩ := h
  obtain ⟨k, n⟩ := x
  by_cases hr : rightB M.made (k, n) = false
  · have e1 : M.err (k, n) i = 1 := by unfold PM.err; rw [if_pos hr]
    rw [e1]
    exact field_wrong w p _ _ _ M.made k n i h.self hr
  · have hr' : rightB M.made (k, n) = true := by simpa using hr
    by_cases hk : k = 2
    · have hk' : (k != 2) = false := by simp [hk]
      cases hc : M.cells n with
      | none =>
        have e1 : M.err (k, n) i = 32 := by unfold PM.err; rw [if_neg hr, if_neg (by simp [hk])]; simp only [hc]
        rw [e1]
        exact field_gone w p bm _ _ M.made k n i f h.self h.map hr' hk' (cellIs_none (h.cells n) hc)
      | some l =>
        obtain ⟨cb, hf, hb, hl, h8⟩ := cellIs_some (h.cells n) hc
        by_cases hi : i < 0 ∨ (l.length : Int) ≤ i
        · have e1 : M.err (k, n) i = 33 := by unfold PM.err; rw [if_neg hr, if_neg (by simp [hk])]; simp only [hc]; rw [if_pos hi]
          rw [e1]
          exact field_none w p bm cb l.length _ _ M.made k n i f h.self h.map hr' hk' hf hi
        · refine absurd ?_ he
          unfold PM.err; rw [if_neg hr, if_neg (by simp [hk])]; simp only [hc]; rw [if_neg hi]
    · have e1 : M.err (k, n) i = 31 := by unfold PM.err; rw [if_neg hr, if_pos (by simpa using hk)]
      rw [e1]
      exact field_nil w p _ _ _ M.made k n i h.self hr' (by simp [hk])
theorem err_good {M : PM} {x : Int × Int} {i : Int} (he : M.err x i = 0) : rightB M.made x = true ∧ x.1 = 2 ∧ ∃ l, M.cells x.2 = some l ∧ ∃ j : Nat, i = j ∧ j < l.length := by
  unfold PM.err at he
  split at he
  · cases he
  · rename_i hr
    split at he
    · cases he
    · rename_i hk
      split at he
      · cases he
      · rename_i l hl
        split at he
        · cases he
        · exact ⟨by simpa using hr, by simpa using hk, l, hl, i.toNat, by omega, by omega⟩
theorem field_good {w : World} {p : Nat} {lab : Lab} {M : PM} (h : MemAt w p lab M) (x : Int × Int) (l : List (Int × Int)) (j : Nat) (he : M.err x j = 0) (hl : M.cells x.2 = some l) (hj : j < l.length) :
    ∃ cb, w.heap[cb]? = some (.cells (flat l).toArray 32 (0, 0)) ∧ lab cb = some (5, x.2) ∧
    Calls Try.prog 31 #[.pointer (some ⟨p, 0, none⟩), vv x, .int .i64 j] w fun e w' => e = .returned (.tuple #[.pointer (some ⟨cb, j * 2, none⟩), .int .i64 0]) ∧ Fresh w w' := by
  obtain ⟨gb, bm, fv, vs, f, h⟩ := h
  obtain ⟨hr, hk, _⟩ := err_good he
  obtain ⟨k, n⟩ := x
  obtain ⟨cb, hf, hb, hlab, h8⟩ := cellIs_some (h.cells n) hl
  exact ⟨cb, hb, hlab, field_ok w p bm cb l.length _ _ M.made k n j f h.self h.map hr (by simpa using hk) hf hj⟩
end Go.Proofs.Ytabfmoedbnpihaa
