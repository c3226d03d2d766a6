/- A step towards the laws on the table: place, the ready mark, publish and lookup of a stripe. No conditions of its own beyond those that its theorems name. -/
import Derived.Test.YtihjpbalkjhjbaaTTab
import Derived.Test.YtihjpbalkjhjbaaTLocks
import Derived.Laws.LoneSync
import Derived.Conc.MuLone
import Derived.StillTailTactics
import Derived.BigQuiet
import Derived.WalkKit
import Derived.WalkSpells
namespace Go.Proofs.Ytihjpbalkjhjbaa
open Go.RowKit Go.MapKept Go.MuLone

theorem tmod8 (k : Int) : (k.tmod 8 + 8) % 8 = k % 8 ∧ -8 < k.tmod 8 ∧ k.tmod 8 < 8 := by
  rcases Int.lt_or_le k 0 with h | h
  · have h1 : k.tmod 8 = -((-k) % 8) := by
      rw [← Int.tmod_eq_emod_of_nonneg (by omega : (0:Int) ≤ -k), Int.neg_tmod]
      omega
    rw [h1]
    omega
  · rw [Int.tmod_eq_emod_of_nonneg h]
    omega
set_option maxHeartbeats 400000 in
theorem place_any (w : World) (k : Int) (i : Nat) (hi : k % 8 = (i : Int)) : Calls Try.prog 34 #[.int .i64 k] w fun e w' => e = .returned (.int .i64 (i : Nat)) ∧ w' = w := by
  obtain ⟨h, b1, b2⟩ := tmod8 k
  rw [hi] at h
  generalize hm : k.tmod 8 = m at *
  have hw : IntKind.i64.wrap (m + 8) = m + 8 := IntWalk.i64_in _ (by omega)
  have hw2 : wrap64 (m + 8) = m + 8 := by unfold wrap64; omega
  have H := Lib.hid h
  clear h
  go_enter Try.func34, Try.ntmps34
  go_wp2_with fail
  go_ret
  exact ⟨by rw [← H.out]; rfl, rfl⟩

set_option maxHeartbeats 400000 in
theorem ready_load (a : Addr) (w : World) (h0 : w.cell? a = some (.int .u32 1)) :
    Calls Try.prog 58 #[.pointer (some a)] w fun e w' => e = .returned (.bool true) ∧ w' = w := by
  have hl := run_call_load (P := Try.prog) Try.func74 (by kernel_rfl) (by kernel_rfl) (by kernel_rfl) .u32 (by kernel_rfl) h0
  go_enter Try.func58, Try.ntmps58
  go_wp2_with fail
  go_ret
  exact ⟨rfl, rfl⟩
set_option maxHeartbeats 400000 in
theorem b32_true (w : World) : Calls Try.prog 78 #[.bool true] w fun e w' => e = .returned (.int .u32 1) ∧ w' = w := by
  go_enter Try.func78, Try.ntmps78
  go_wp2_with fail
  go_ret
  exact ⟨rfl, rfl⟩
set_option maxRecDepth 100000 in
set_option maxHeartbeats 400000 in
theorem ready_store (b : Nat) (w : World) (h0 : w.cell? ⟨b, 0, none⟩ = some (.int .u32 0)) (hz : w.frozen? ⟨b, 0, none⟩ = false) :
    Calls Try.prog 60 #[.pointer (some ⟨b, 0, none⟩), .bool true] w fun e w' => e = .returned (.tuple #[]) ∧ Only w w' (fun c => c = b) ∧ w'.cell? ⟨b, 0, none⟩ = some (.int .u32 1) ∧ (∀ cs t, w.heap[b]? = some (.cells cs t (0, 0)) → w'.heap[b]? = some (.cells (cs.setIfInBounds 0 (.int .u32 1)) t (0, 0))) := by
  have hl : ∀ w1 : World, w1.cell? ⟨b, 0, none⟩ = some (.int .u32 0) → w1.frozen? ⟨b, 0, none⟩ = false → _ := fun w1 h1 h2 => run_call_store (P := Try.prog) Try.func77 (by kernel_rfl) (by kernel_rfl) (by kernel_rfl) (by kernel_rfl) (k := .u32) (y := 1) h1 h2
  have hl1 := hl w h0 hz
  have hl2 := hl w.drew h0 hz
  clear hl
  go_enter Try.func60, Try.ntmps60
  have HB := Lib.hid b32_true
  go_wp2_with fail
  refine wp_region_still_tail 5 (by kernel_rfl) (by kernel_rfl) ?_
  simp only [List.take_succ_cons, List.take_zero, List.drop_succ_cons, List.drop_zero]
  repeat still_step
  still_call (HB.out _)
  repeat still_step
  refine wpStill_nil ?_
  go_wp2_with fail
  go_end0
  exact ⟨rfl, ((Only.refl w (fun c => c = b)).drew).setCell (p := ⟨b, 0, none⟩) (.inl rfl) _, World.cell?_setCell_same w.drew ⟨b, 0, none⟩ (.int .u32 1) h0, fun cs t hb => blk_set (w := w.drew) hb 0 _⟩

theorem nameW {C : Code} {Q : Exit → Act → World → Prop} {a : Act} {W : World} (h : ∀ V, V = W → Code.wp Try.prog C Q a V) : Code.wp Try.prog C Q a W := h W rfl
theorem alloc_only (w : World) (o : Obj) : Fresh w (w.alloc o) := (Only.refl _ _).alloc o
theorem Fresh.cel2 {w w1 : World} (h : Fresh w w1) {p : Addr} (hp : p.block < w.heap.size) : w1.cell? p = w.cell? p := Only.cell h hp (fun q => q)
theorem zeroEnt (w : World) : (zeroValue 121).run Try.prog w = .ok (.pointer none) w := by kernel_rfl
set_option maxRecDepth 100000 in
set_option maxHeartbeats 1000000 in
theorem publish_old (w : World) (tb i bm eb : Nat) (f : Int → Option Value) (k : Int) (s : ByteArray) (c2 : w.cell? ⟨tb, i * 3 + 2, none⟩ = some (.map (some bm))) (hm : IMap w bm f) (hf : f k = some (.pointer (some ⟨eb, 0, none⟩))) (he : w.cell? ⟨eb, 0, none⟩ = some (.int .u32 1)) :
    Calls Try.prog 39 #[.pointer (some ⟨tb, i * 3, none⟩), .int .i64 k, .string s] w fun e w' => e = .returned (.bool false) ∧ w' = w := by
  have hl := IMap.run_lookup2 Try.underlying84 Try.underlying3 hm _ (zeroEnt _) k
  rw [hf] at hl
  simp only [Option.getD_some, Option.isSome_some] at hl
  have HR := Lib.hid (ready_load ⟨eb, 0, none⟩ w he)
  clear hm hf he
  go_enter Try.func39, Try.ntmps39
  go_wp2_with fail
  refine HR.out.mono ?_
  rintro e w' ⟨rfl, rfl⟩
  go_wp2_with fail
  go_ret
  exact ⟨rfl, rfl⟩
/-- behind a publish of a key that was not there: the entry is a new block, and in the map -/
def PubNew (w w' : World) (bm : Nat) (f : Int → Option Value) (k : Int) (s : ByteArray) : Prop :=
  ∃ eb, w.heap.size ≤ eb ∧ IMap w' bm (fun j => if j = k then some (.pointer (some ⟨eb, 0, none⟩)) else f j) ∧ Only w w' (fun b => b = bm) ∧ w'.heap[eb]? = some (.cells #[.int .u32 1, .string s] 127 (0, 0))
set_option maxRecDepth 100000 in
set_option maxHeartbeats 1000000 in
theorem publish_new (w : World) (tb i bm : Nat) (f : Int → Option Value) (k : Int) (s : ByteArray) (c2 : w.cell? ⟨tb, i * 3 + 2, none⟩ = some (.map (some bm))) (hm : IMap w bm f) (hf : f k = none) :
    Calls Try.prog 39 #[.pointer (some ⟨tb, i * 3, none⟩), .int .i64 k, .string s] w fun e w' => e = .returned (.bool true) ∧ PubNew w w' bm f k s := by
  have hl := IMap.run_lookup2 Try.underlying84 Try.underlying3 hm _ (zeroEnt _) k
  rw [hf] at hl
  simp only [Option.getD_none, Option.isSome_none] at hl
  have htb := World.block_lt_of_cell? _ _ c2
  have HM := Lib.hid hm
  have HC2 := Lib.hid c2
  clear hm hf
  go_enter Try.func39, Try.ntmps39
  go_wp2_with fail
  refine (ready_store w.heap.size _ ?_ ?_).mono ?_
  · exact blk_cell (new_blk _) rfl
  · exact blk_frozen (new_blk _) _
  clear hl c2
  rintro e w1 ⟨rfl, ho, _, hb⟩
  have hb1 := hb _ _ (new_blk _)
  have hlt1 := HM.out.lt
  have hm1 : IMap w1 bm f := ((HM.out.only (alloc_only w _) (fun q => q)).only ho (by omega))
  have c2 : w1.cell? ⟨tb, i * 3 + 2, none⟩ = some (.map (some bm)) := (ho.cell (p := ⟨tb, i * 3 + 2, none⟩) (Nat.lt_of_lt_of_le htb (by simp)) (by dsimp only at htb ⊢; omega)).trans ((Fresh.cel2 (alloc_only w _) htb).trans HC2.out)
  obtain ⟨w2, hrun, hm2, hturn, hdr⟩ := IMap.run_update Try.underlying84 Try.underlying3 hm1 k (.pointer (some ⟨w.heap.size, 0, none⟩))
  have HH := Lib.hid (And.intro hm2 (And.intro hturn (And.intro ho hb1)))
  clear hm1 hm2 hturn hdr ho hb1 hb
  go_wp2_with fail
  go_ret
  obtain ⟨hm2, hturn, ho, hb1⟩ := HH.out
  refine ⟨rfl, w.heap.size, Nat.le_refl _, hm2, ?_, ?_⟩
  · exact (((Only.refl w (fun b => b = bm)).alloc _).trans ho fun b q => .inr (by omega)).trans (hturn.only (S := fun b => b = bm) rfl) fun b q => .inl q
  · rw [hturn.2.2.2.2 _ (by omega)]
    exact hb1

set_option maxRecDepth 100000 in
set_option maxHeartbeats 1000000 in
theorem lookup_some (w : World) (tb i bm eb : Nat) (f : Int → Option Value) (k : Int) (s : ByteArray) (c2 : w.cell? ⟨tb, i * 3 + 2, none⟩ = some (.map (some bm))) (hm : IMap w bm f) (hf : f k = some (.pointer (some ⟨eb, 0, none⟩))) (he : w.cell? ⟨eb, 0, none⟩ = some (.int .u32 1)) (he1 : w.cell? ⟨eb, 1, none⟩ = some (.string s)) :
    Calls Try.prog 37 #[.pointer (some ⟨tb, i * 3, none⟩), .int .i64 k] w fun e w' => e = .returned (.tuple #[.string s, .bool true]) ∧ w' = w := by
  have hl := IMap.run_lookup2 Try.underlying84 Try.underlying3 hm _ (zeroEnt _) k
  rw [hf] at hl
  simp only [Option.getD_some, Option.isSome_some] at hl
  have HR := Lib.hid (ready_load ⟨eb, 0, none⟩ w he)
  clear hm hf he
  go_enter Try.func37, Try.ntmps37
  go_wp2_with fail
  refine HR.out.mono ?_
  rintro e w' ⟨rfl, rfl⟩
  go_wp2_with fail
  go_ret2
  exact ⟨rfl, rfl⟩
set_option maxRecDepth 100000 in
set_option maxHeartbeats 1000000 in
theorem lookup_none (w : World) (tb i bm : Nat) (f : Int → Option Value) (k : Int) (c2 : w.cell? ⟨tb, i * 3 + 2, none⟩ = some (.map (some bm))) (hm : IMap w bm f) (hf : f k = none) :
    Calls Try.prog 37 #[.pointer (some ⟨tb, i * 3, none⟩), .int .i64 k] w fun e w' => e = .returned (.tuple #[.string ⟨#[]⟩, .bool false]) ∧ w' = w := by
  have hl := IMap.run_lookup2 Try.underlying84 Try.underlying3 hm _ (zeroEnt _) k
  rw [hf] at hl
  simp only [Option.getD_none, Option.isSome_none] at hl
  clear hm hf
  go_enter Try.func37, Try.ntmps37
  go_wp2_with fail
  go_ret2
  exact ⟨rfl, rfl⟩
end Go.Proofs.Ytihjpbalkjhjbaa
