/- A step towards the laws on the table: New, and the calls of a nil table. No conditions of its own beyond those that its theorems name. -/
import Derived.Test.YtihjpbalkjhjbaaTPub
namespace Go.Proofs.Ytihjpbalkjhjbaa
open Go.RowKit Go.MapKept Go.MuLone

theorem alloc_size (w : World) (o : Obj) : (w.alloc o).heap.size = w.heap.size + 1 := by simp
theorem heap_alloc_old {w : World} {b : Nat} (h : b < w.heap.size) (o : Obj) : (w.alloc o).heap[b]? = w.heap[b]? := Below.heap_alloc w o b h
/-- ahead of the i-th stripe's map -/
structure NewS (w wr : World) (tb i : Nat) (cs : Array Value) : Prop where
  blk : wr.heap[tb]? = some (.cells cs 89 (0, 0))
  lock : ∀ j, j < 8 → cs[j * 3]? = some (.int .i32 0)
  sz : cs.size = 24
  maps : ∀ j, j < i → cs[j * 3 + 2]? = some (.map (some (tb + 1 + j))) ∧ IMap wr (tb + 1 + j) fun _ => none
  hs : wr.heap.size = tb + 1 + i
  fr : Fresh w wr
theorem NewS.step {w wr : World} {tb i : Nat} {cs : Array Value} (h : NewS w wr tb i cs) (hw : w.heap.size ≤ tb) (hi : i < 8) :
    NewS w ((wr.setCell ⟨tb, i * 3 + 2, none⟩ (.map (some wr.heap.size))).alloc (.map #[] 0)) tb (i + 1) (cs.setIfInBounds (i * 3 + 2) (.map (some wr.heap.size))) := by
  have hs := h.hs
  have hsz := h.sz
  have hss : (wr.setCell ⟨tb, i * 3 + 2, none⟩ (.map (some wr.heap.size))).heap.size = wr.heap.size := by simp [World.setCell]
  have hb : ∀ b, b ≠ tb → b < wr.heap.size → ((wr.setCell ⟨tb, i * 3 + 2, none⟩ (.map (some wr.heap.size))).alloc (.map #[] 0)).heap[b]? = wr.heap[b]? := fun b hb hlt => (heap_alloc_old (by rw [hss]; exact hlt) _).trans (Below.heap_setCell _ _ _ b hb)
  refine ⟨blk_alloc (blk_set h.blk _ _) _, fun j hj => ?_, by simpa using hsz, fun j hj => ?_, by rw [alloc_size, hss, hs]; omega, (h.fr.setCell (.inr hw) _).alloc _⟩
  · rw [Array.getElem?_setIfInBounds_ne (by omega)]
    exact h.lock j hj
  · by_cases e : j = i
    · subst e
      refine ⟨by rw [Array.getElem?_setIfInBounds, if_pos rfl, if_pos (by omega), hs], ?_⟩
      have hm := IMap.made (wr.setCell ⟨tb, j * 3 + 2, none⟩ (.map (some wr.heap.size)))
      rw [hss] at hm
      rw [← hs]
      exact hm
    · obtain ⟨k1, k2⟩ := h.maps j (by omega)
      refine ⟨by rw [Array.getElem?_setIfInBounds_ne (by omega)]; exact k1, k2.of_block (hb _ (by omega) (by omega))⟩
theorem NewS.done {w wr : World} {tb : Nat} {cs : Array Value} (h : NewS w wr tb 8 cs) (hw : w.heap.size ≤ tb) :
    ∃ lab, TabAt wr tb lab (fun _ => none) ∧ Fresh w wr ∧ ∀ b, lab b ≠ none → w.heap.size ≤ b := by
  have hs := h.hs
  let lab : TLab := fun b => if b = tb then some (0, 0) else if tb < b ∧ b ≤ tb + 8 then some (1, ((b - tb - 1 : Nat) : Int)) else none
  have hl : ∀ b, lab b ≠ none → tb ≤ b ∧ b ≤ tb + 8 := fun b hb => by
    have hb' : (if b = tb then some ((0 : Nat), (0 : Int)) else if tb < b ∧ b ≤ tb + 8 then some (1, ((b - tb - 1 : Nat) : Int)) else none) ≠ none := hb
    split at hb'
    · omega
    · split at hb'
      · omega
      · exact absurd rfl hb'
  refine ⟨lab, ⟨fun j => tb + 1 + j, fun _ _ => none, cs, h.blk, h.lock, fun j hj => (h.maps j hj).1, if_pos rfl, fun j hj => (h.maps j hj).2, fun j hj => ?_, fun j hj k => ?_, fun b hb => ?_⟩, h.fr, fun b hb => Nat.le_trans hw (hl b hb).1⟩
  · show (if tb + 1 + j = tb then _ else _) = _
    rw [if_neg (by omega), if_pos (by omega)]
    congr 2
    omega
  · split <;> trivial
  · have := hl b hb
    omega

set_option maxRecDepth 100000 in
set_option maxHeartbeats 1000000 in
theorem tnew (w : World) : Calls Try.prog 11 #[] w fun e w' => ∃ tb lab, e = .returned (.pointer (some ⟨tb, 0, none⟩)) ∧ TabAt w' tb lab (fun _ => none) ∧ Fresh w w' ∧ ∀ b, lab b ≠ none → w.heap.size ≤ b := by
  go_enter Try.func11, Try.ntmps11
  go_wp2_with fail
  go_loopw [5] (fun s5 wr => ∃ (i : Nat) (cs : Array Value), i ≤ 8 ∧ s5 = .int .i64 i ∧ NewS w wr w.heap.size i cs) (fun s5 _ => 8 - (intOf s5).toNat)
  case atStart =>
    refine ⟨0, _, Nat.zero_le _, rfl, new_blk _, ?_, ?_, fun j hj => absurd hj (by omega), by simp, alloc_only _ _⟩
    · intro j hj
      rcases j with _ | _ | _ | _ | _ | _ | _ | _ | j <;> first | rfl | omega
    · rfl
  case round =>
    obtain ⟨i, cs, hi, rfl, hS⟩ := hrel
    have HS := Lib.hid hS
    have hsz := hS.sz
    have hs := hS.hs
    have c2 : i < 8 → ∃ v, wr.cell? ⟨w.heap.size, i * 3 + 2, none⟩ = some v := fun h => ⟨cs[i * 3 + 2]'(by omega), blk_cell hS.blk (Array.getElem?_eq_getElem _)⟩
    have fz := blk_frozen hS.blk (i * 3 + 2)
    have hl := blk_lt hS.blk
    have HSZ := Lib.hid (And.intro hsz hs)
    clear hS hsz hs
    by_cases hlt : i < 8
    · obtain ⟨v, c2⟩ := c2 hlt
      have hlI : (i : Int) < 8 := by omega
      have hlD : decide ((i : Int) < 8) = true := by simp; omega
      have hmm := @run_makeMap Try.prog
      go_wp2_with fail
      go_roundw
      case rel => exact ⟨i + 1, _, by omega, by go_num, HS.out.step (Nat.le_refl _) hlt⟩
      case measure => simp [intOf]; omega
    · clear c2
      have hlD : decide ((i : Int) < 8) = false := by simp; omega
      go_wp2_with fail
      go_ret
      obtain rfl : i = 8 := by omega
      obtain ⟨lab, h⟩ := HS.out.done (Nat.le_refl _)
      exact ⟨w.heap.size, lab, rfl, h⟩

set_option maxHeartbeats 400000 in
theorem nil_lookup (w : World) (k : Int) : Calls Try.prog 8 #[.pointer none, .int .i64 k] w fun e w' => e = .returned (.tuple #[.string ⟨#[]⟩, .bool false]) ∧ w' = w := by
  go_enter_defers Try.func8, Try.ntmps8
  go_wp2_with fail
  exact ⟨_, results_tmp2 rfl _ _ _, rfl, rfl⟩
set_option maxHeartbeats 400000 in
theorem nil_publish (w : World) (k : Int) (s : ByteArray) : Calls Try.prog 10 #[.pointer none, .int .i64 k, .string s] w fun e w' => e = .returned (.bool false) ∧ w' = w := by
  go_enter_defers Try.func10, Try.ntmps10
  go_wp2_with fail
  exact ⟨_, results_tmp rfl _ _ _, rfl, rfl⟩
set_option maxHeartbeats 400000 in
theorem nil_snapshot (w : World) : Calls Try.prog 9 #[.pointer none] w fun e w' => e = .returned (.tuple #[.slice none 0 0, .slice none 0 0]) ∧ w' = w := by
  go_enter Try.func9, Try.ntmps9
  go_wp2_with fail
  go_ret2
  exact ⟨rfl, rfl⟩
end Go.Proofs.Ytihjpbalkjhjbaa
