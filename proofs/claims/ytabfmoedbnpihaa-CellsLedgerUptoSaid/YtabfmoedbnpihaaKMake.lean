/- A step towards the laws on the cells of a run: the walks of Make. No conditions of its own beyond those that its theorems name. -/
import Derived.Test.YtabfmoedbnpihaaKPush
import Derived.Laws.MakeOwn
import Derived.StillTactics
import Derived.Deep.DeepCutAuto
import Derived.Deep.RegionLaw
namespace Go.Proofs.Ytabfmoedbnpihaa
open Go.RowKit Go.MapKept

theorem infoValue : (Try.prog.info? 32).map (fun i => (i.zero, i.size, i.bytes)) = some (some (.agg #[.int .i64 0, .int .i64 0]), 2, 16) := by kernel_rfl

theorem run_make_rowN {P : Program} (t e : TypeId) (i : TypeInfo) (z : Value) (ht : P.underlying t = some (.slice e)) (hi : P.info? e = some i) (hz : i.zero = some z)
    (kl kc : IntKind) (n c : Nat) (hnc : n ≤ c) (hbytes : i.bytes * c ≤ 281474976710656) (h63 : c ≤ 9223372036854775807) (w : World) :
    (Instr.makeSlice t (.int kl (n : Int)) (.int kc (c : Int))).run P w = .ok (.slice (some ⟨w.heap.size, 0, none⟩) n c) (w.alloc (.cells (madeCells z.cells (c * i.size)) e)) := by
  have hb : (i.bytes : Int) * (c : Int) ≤ 281474976710656 := by
    have h : ((i.bytes * c : Nat) : Int) ≤ 281474976710656 := by omega
    rwa [Int.natCast_mul] at h
  have hr := run_make (P := P) w t e i z ht hi hz kl kc n c (by omega) (by omega) hb (by omega)
  simp only [Int.toNat_natCast] at hr
  exact hr
theorem madeCells_two (n : Nat) : madeCells (Value.agg #[.int .i64 0, .int .i64 0]).cells (n * 2) = (flat (List.replicate n (0, 0))).toArray := by
  apply Array.ext'
  rw [flat_replicate]
  apply List.ext_getElem?
  intro i
  simp only [madeCells, Array.toList_map, Array.toList_range, List.getElem?_map, List.getElem?_replicate, Value.cells]
  by_cases h : i < n * 2
  · rw [List.getElem?_range h, if_pos (by omega)]
    have : i % 2 = 0 ∨ i % 2 = 1 := by omega
    rcases this with e | e <;> simp [e]
  · rw [List.getElem?_eq_none (by simp; omega), if_neg (by omega)]
    rfl
theorem run_makeValues (n : Nat) (hn8 : n ≤ 16) : ∀ w, (Instr.makeSlice 22 (.int .i64 (n : Int)) (.int .i64 (n : Int))).run Try.prog w = .ok (.slice (some ⟨w.heap.size, 0, none⟩) n n) (w.alloc (.cells (flat (List.replicate n (0, 0))).toArray 32)) := by
  intro w
  obtain ⟨i0, hi, hz0, hz1, hz2⟩ := info_parts infoValue
  have hr := run_make_rowN (P := Try.prog) 22 32 i0 _ Try.underlying22 hi hz0 .i64 .i64 n n (Nat.le_refl _) (by rw [hz2]; omega) (by omega) w
  rw [hz1] at hr
  rw [hr, madeCells_two]

theorem cel_new {w : World} {a : Addr} {v : Value} (h : w.cell? a = some v) (hb : a.block < w.heap.size) (o : Obj) : (w.alloc o).drew.cell? a = some v := (World.cell?_of_block (w := w) (Below.heap_alloc w o a.block hb)).trans h
theorem frz_new {w : World} {a : Addr} (h : w.frozen? a = false) (hb : a.block < w.heap.size) (o : Obj) : (w.alloc o).drew.frozen? a = false := (World.frozen?_of_block (w := w) (Below.heap_alloc w o a.block hb)).trans h
/-- a cell more in the map, its number counted -/
structure MkCell (w w2 : World) (p bm : Nat) (gv fv : Value) (md n : Nat) (f : Int → Option Value) : Prop where
  self : w2.heap[p]? = some (.cells #[gv, .map (some bm), .int .i64 ((md : Int) + 1), fv] 66 (0, 0))
  map : IMap w2 bm fun j => if j = (md : Int) + 1 then some (.agg #[.slice (some ⟨w.heap.size, 0, none⟩) n n]) else f j
  cell : w2.heap[w.heap.size]? = some (.cells (flat (List.replicate n (0, 0))).toArray 32 (0, 0))
  only : Only w w2 fun b => b = p ∨ b = bm

theorem mkCell {w w2 : World} {p bm : Nat} {gv fv : Value} {md n : Nat} {f : Int → Option Value}
    (h : w.heap[p]? = some (.cells #[gv, .map (some bm), .int .i64 md, fv] 66 (0, 0))) (hbm : bm ≠ p) (hlt : bm < w.heap.size)
    (him : IMap w2 bm fun j => if j = (md : Int) + 1 then some (.agg #[.slice (some ⟨w.heap.size, 0, none⟩) n n]) else f j)
    (ht : Turned ((w.setCell ⟨p, 2, none⟩ (.int .i64 ((md : Int) + 1))).alloc (.cells (flat (List.replicate n (0, 0))).toArray 32)).drew w2 bm) : MkCell w w2 p bm gv fv md n f where
  self := (ht.2.2.2.2 p (fun e => hbm e.symm)).trans (blk_alloc (by simpa using blk_set h 2 (.int .i64 ((md : Int) + 1))) _)
  map := him
  cell := (ht.2.2.2.2 _ (by omega)).trans (by
    have := new_blk (w := w.setCell ⟨p, 2, none⟩ (.int .i64 ((md : Int) + 1))) (.cells (flat (List.replicate n (0, 0))).toArray 32)
    have e : (w.setCell ⟨p, 2, none⟩ (.int .i64 ((md : Int) + 1))).heap.size = w.heap.size := by simp [World.setCell]
    rw [e] at this
    exact this)
  only := by
    have h1 : Only w ((w.setCell ⟨p, 2, none⟩ (.int .i64 ((md : Int) + 1))).alloc (.cells (flat (List.replicate n (0, 0))).toArray 32)).drew fun b => b = p ∨ b = bm := (((Only.refl _ _).setCell (.inl (.inl rfl)) _).alloc _).drew
    exact h1.trans' (ht.only (.inr rfl))

set_option maxRecDepth 100000 in
set_option maxHeartbeats 1000000 in
theorem make_heap_walk (w : World) (p bm : Nat) (md n : Nat) (gv fv : Value) (vs : List Value) (f : Int → Option Value)
    (h : w.heap[p]? = some (.cells #[gv, .map (some bm), .int .i64 md, fv] 66 (0, 0)))
    (hm : IMap w bm f) (ho : w.ownsRow 0 39 1 fv vs.length vs) (hn1 : 1 ≤ n) (hn8 : n ≤ 8) (hv : 0 < vs.length) (hvl : vs.length < Lim) (hmd : md < Lim) (hbm : bm ≠ p) :
    Calls Try.prog 13 #[.pointer (some ⟨p, 0, none⟩), .int .i64 n, .bool true] w fun e w' => e = .returned (.tuple #[.int .i64 ((md : Int) + 1), .int .i64 0]) ∧ MkCell w w' p bm gv fv md n f := by
  obtain ⟨A, C, rfl⟩ := own_slice ho
  have c2 : w.cell? ⟨p, 2, none⟩ = some (.int .i64 md) := blk_cell h rfl
  have f2 := blk_frozen h 2
  have c3 : w.cell? ⟨p, 3, none⟩ = some (.slice A vs.length C) := blk_cell h rfl
  have c1 : w.cell? ⟨p, 1, none⟩ = some (.map (some bm)) := blk_cell h rfl
  have hp : p < w.heap.size := blk_lt h
  have d0 : decide ((n : Int) < 1) = false := by simp; omega
  have d1 : decide ((n : Int) > 8) = false := by simp; omega
  have d2 : (0 : Int) ≤ (vs.length : Int) - 1 := by omega
  unfold Lim at hvl hmd
  have hml : md ≤ 9223372036854775806 := by omega
  have hvl' : vs.length ≤ 9223372036854775806 := by omega
  have HK := Lib.hid (fun w2 => mkCell (w2 := w2) (n := n) (f := f) h hbm hm.lt)
  have H := Lib.hid h
  clear hvl hmd h ho
  go_enter Try.func13, Try.ntmps13
  go_wp2_with fail
  have hmk := run_makeValues n (by omega)
  obtain ⟨w2, hrun, him, hturn, hdr⟩ := IMap.run_update Try.underlying64 Try.underlying3 (w := ((w.setCell ⟨p, 2, none⟩ (.int .i64 ((md : Int) + 1))).alloc (.cells (flat (List.replicate n (0, 0))).toArray 32)).drew)
    (hm.of_block ((Below.heap_alloc _ _ bm (by simpa [World.setCell] using hm.lt)).trans (Below.heap_setCell w _ _ bm hbm))) ((md : Int) + 1) (.agg #[.slice (some ⟨w.heap.size, 0, none⟩) n n])
  have K := HK.out w2 him hturn
  go_region
  have c2' : w2.cell? ⟨p, 2, none⟩ = some (.int .i64 ((md : Int) + 1)) := blk_cell K.self rfl
  have HKK := Lib.hid K
  clear hm him hturn hdr K hrun hmk c2 f2 c3 c1
  go_wp2
  go_ret2
  exact ⟨rfl, HKK.out⟩

set_option maxRecDepth 100000 in
set_option maxHeartbeats 2000000 in
theorem make_frame_walk (w : World) (p bm og L C m : Nat) (md n : Nat) (gv v : Value) (xs : List Value) (f : Int → Option Value)
    (h : w.heap[p]? = some (.cells #[gv, .map (some bm), .int .i64 md, .slice (some ⟨og, 0, none⟩) (L + 1) C] 66 (0, 0)))
    (hm : IMap w bm f) (hov : w.cell? ⟨og, L, none⟩ = some v) (hof : w.frozen? ⟨og, L, none⟩ = false) (hogl : og < w.heap.size) (ho : w.ownsRow 0 3 1 v m xs) (hn1 : 1 ≤ n) (hn8 : n ≤ 8) (hvl : L < Lim) (hmd : md < Lim) (hml : m < Lim) (hbm : bm ≠ p) (hogp : og ≠ p) (hogb : og ≠ bm)
    (hvo : ∀ g, v.ownBlock = some g → g ≠ og ∧ g ≠ p ∧ g ≠ bm) :
    Calls Try.prog 13 #[.pointer (some ⟨p, 0, none⟩), .int .i64 n, .bool false] w fun e w' => e = .returned (.tuple #[.int .i64 ((md : Int) + 1), .int .i64 0]) ∧
      ∃ w2 A' C' w3, MkCell w w2 p bm gv (.slice (some ⟨og, 0, none⟩) (L + 1) C) md n f ∧ w3.ownsRow 0 3 1 (.slice A' (m + 1) C') (m + 1) (xs ++ [.int .i64 ((md : Int) + 1)]) ∧ w2.grownBy w3 v.ownBlock ∧
        (A'.map Addr.block = v.ownBlock ∨ ∃ g, w2.heap.size ≤ g ∧ A'.map Addr.block = some g) ∧ w' = w3.setCell ⟨og, L, none⟩ (.slice A' (m + 1) C') := by
  obtain ⟨A, C1, rfl⟩ := own_slice ho
  have c2 : w.cell? ⟨p, 2, none⟩ = some (.int .i64 md) := blk_cell h rfl
  have f2 := blk_frozen h 2
  have c3 : w.cell? ⟨p, 3, none⟩ = some (.slice (some ⟨og, 0, none⟩) (L + 1) C) := blk_cell h rfl
  have c1 : w.cell? ⟨p, 1, none⟩ = some (.map (some bm)) := blk_cell h rfl
  have hp : p < w.heap.size := blk_lt h
  have d0 : decide ((n : Int) < 1) = false := by simp; omega
  have d1 : decide ((n : Int) > 8) = false := by simp; omega
  have HML := Lib.hid hml
  unfold Lim at hvl hmd
  have hmdl : md ≤ 9223372036854775806 := by omega
  have hvl' : L ≤ 9223372036854775805 := by omega
  have HK := Lib.hid (fun w2 => mkCell (w2 := w2) (n := n) (f := f) h hbm hm.lt)
  have H := Lib.hid h
  have HO := Lib.hid ho
  have HOV := Lib.hid hov
  have HOF := Lib.hid hof
  have HVO := Lib.hid hvo
  clear hvl hmd h ho hml hov hof hvo
  go_enter Try.func13, Try.ntmps13
  go_wp2_with fail
  have hmk := run_makeValues n (by omega)
  obtain ⟨w2, hrun, him, hturn, hdr⟩ := IMap.run_update Try.underlying64 Try.underlying3 (w := ((w.setCell ⟨p, 2, none⟩ (.int .i64 ((md : Int) + 1))).alloc (.cells (flat (List.replicate n (0, 0))).toArray 32)).drew)
    (hm.of_block ((Below.heap_alloc _ _ bm (by simpa [World.setCell] using hm.lt)).trans (Below.heap_setCell w _ _ bm hbm))) ((md : Int) + 1) (.agg #[.slice (some ⟨w.heap.size, 0, none⟩) n n])
  have K := HK.out w2 him hturn
  go_region
  have c2' : w2.cell? ⟨p, 2, none⟩ = some (.int .i64 ((md : Int) + 1)) := blk_cell K.self rfl
  have c3' : w2.cell? ⟨p, 3, none⟩ = some (.slice (some ⟨og, 0, none⟩) (L + 1) C) := blk_cell K.self rfl
  have hp2 := blk_lt K.self
  have HKK := Lib.hid K
  clear hm him hturn hdr K hrun hmk c2 f2 c3 c1
  go_upto_region 9 with fail
  have ho2 := HKK.out.only.row HO.out (fun g hg q => by
    have := HVO.out g hg
    rcases q with q | q
    · exact this.2.1 q
    · exact this.2.2 q)
  have hov2 : w2.cell? ⟨og, L, none⟩ = some (.slice A m C1) := (HKK.out.only.cell (p := ⟨og, L, none⟩) hogl (by rintro (q | q); exact hogp q; exact hogb q)).trans HOV.out
  have hof2 : w2.frozen? ⟨og, L, none⟩ = false := (World.frozen?_of_block (w := w) (HKK.out.only.block og hogl (by rintro (q | q); exact hogp q; exact hogb q))).trans HOF.out
  have hog2 : og < w2.heap.size := Nat.lt_of_lt_of_le hogl HKK.out.only.size
  have HO2 := Lib.hid ho2
  clear ho2
  have hL0 : (0 : Int) ≤ (L : Int) := Int.natCast_nonneg _
  have hL1 : (L : Int) < (L : Int) + 1 := by omega
  obtain ⟨i0, hi, hz0, hz1, hz2⟩ := info_parts infoInt
  go_cut [47] (fun s47 wx => s47 = .pointer (some ⟨p, 0, none⟩) ∧ ∃ A' C' w3, w3.ownsRow 0 3 1 (.slice A' (m + 1) C') (m + 1) (xs ++ [.int .i64 ((md : Int) + 1)]) ∧ (w2.alloc (.cells #[.int .i64 ((md : Int) + 1)] 3)).drew.grownBy w3 (Value.slice A m C1).ownBlock ∧
    (A'.map Addr.block = (Value.slice A m C1).ownBlock ∨ A'.map Addr.block = some (w2.alloc (.cells #[.int .i64 ((md : Int) + 1)] 3)).heap.size) ∧ w3.cell? ⟨p, 2, none⟩ = some (.int .i64 ((md : Int) + 1)) ∧ wx = w3.setCell ⟨og, L, none⟩ (.slice A' (m + 1) C'))
  case first =>
    go_region_law
      ((refine step_app _ (by rfl) _ _ _ (by rfl) 0 3 i0 (.int .i64 0) 1 8 Try.underlying39 hi hz0 hz1 hz2 rfl (by omega) (.slice A m C1) m xs (by rfl) ((HO2.out.alloc _).drew) w2.heap.size 1 1 [.int .i64 ((md : Int) + 1)] 3 (0, 0) (by rfl) (new_blk _) (by rfl) (by simp [Value.oneCell']) (by have := HML.out; unfold Lim at this; unfold maxLen; omega) (by have := HML.out; unfold Lim at this; omega) (Nat.zero_le _) ?_; intro A' C' w3 hown hgrow hat; have hb3 := fun (q : Addr) (hq : q.block < w2.heap.size) (hne : some q.block ≠ (Value.slice A m C1).ownBlock) => (hgrow.block q.block (by simp; omega) hne).trans (Below.heap_alloc w2 _ q.block hq); have k1 : w3.cell? ⟨og, L, none⟩ = some (.slice A m C1) := (World.cell?_of_block (w := w2) (hb3 ⟨og, L, none⟩ hog2 (fun e => (HVO.out og e.symm).1 rfl))).trans hov2; have k2 : w3.frozen? ⟨og, L, none⟩ = false := (World.frozen?_of_block (w := w2) (hb3 ⟨og, L, none⟩ hog2 (fun e => (HVO.out og e.symm).1 rfl))).trans hof2; have k3 : w3.cell? ⟨p, 3, none⟩ = some (.slice (some ⟨og, 0, none⟩) (L + 1) C) := (World.cell?_of_block (w := w2) (hb3 ⟨p, 3, none⟩ hp2 (fun e => (HVO.out p e.symm).2.1 rfl))).trans c3'; have k4 : w3.cell? ⟨p, 2, none⟩ = some (.int .i64 ((md : Int) + 1)) := (World.cell?_of_block (w := w2) (hb3 ⟨p, 2, none⟩ hp2 (fun e => (HVO.out p e.symm).2.1 rfl))).trans c2'; clear hb3))
    all_goals (go_wp2_with fail; go_meet; exact ⟨rfl, A', C', w3, hown, hgrow, hat, k4, rfl⟩)
  case rest =>
    obtain ⟨rfl, A', C', w3, hown, hgrow, hat, k4, rfl⟩ := hcut
    have k5 : (w3.setCell ⟨og, L, none⟩ (.slice A' (m + 1) C')).cell? ⟨p, 2, none⟩ = some (.int .i64 ((md : Int) + 1)) := (World.cell?_setCell_other _ _ _ _ (fun e => hogp (congrArg Addr.block e))).trans k4
    go_wp2
    go_ret2
    exact ⟨rfl, w2, A', C', w3, HKK.out, hown, alloc_grown ⟨hgrow.os, hgrow.tape, hgrow.output, hgrow.size, hgrow.block⟩, hat.imp id fun q => ⟨_, by simp, q⟩, rfl⟩
end Go.Proofs.Ytabfmoedbnpihaa
