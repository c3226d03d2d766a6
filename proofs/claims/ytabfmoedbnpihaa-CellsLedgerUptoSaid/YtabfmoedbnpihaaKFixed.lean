/- A step towards the laws on the cells of a run: mod and fixed; a memory of one's own. No conditions of its own beyond those that its theorems name. -/
import Derived.Test.YtabfmoedbnpihaaKNew
namespace Go.Proofs.Ytabfmoedbnpihaa
open Go.RowKit Go.MapKept

theorem tmod_neg (k n : Int) (h : k.tmod n < 0) (hn : 1 ≤ n) : k.tmod n + n = k % n := by
  rw [Int.tmod_eq_emod] at h ⊢
  split at h
  · have := Int.emod_nonneg k (show n ≠ 0 by omega)
    omega
  · rename_i hc
    rw [if_neg hc]
    omega
theorem tmod_pos (k n : Int) (h : ¬ k.tmod n < 0) (hn : 1 ≤ n) : k.tmod n = k % n := by
  rw [Int.tmod_eq_emod] at h ⊢
  split at h
  · rename_i hc
    rw [if_pos hc]
    omega
  · have := Int.emod_lt_of_pos k (show 0 < n by omega)
    omega

set_option maxRecDepth 100000 in
set_option maxHeartbeats 400000 in
theorem mod_any (w : World) (k n : Int) (hn1 : 1 ≤ n) (hn2 : n ≤ 4611686018427387904) :
    Calls Try.prog 14 #[.int .i64 k, .int .i64 n] w fun e w' => e = .returned (.int .i64 (k % n)) ∧ w = w' := by
  have b1 : -n < k.tmod n ∧ k.tmod n < n := by
    rw [Int.tmod_eq_emod]
    have h1 := Int.emod_nonneg k (show n ≠ 0 by omega)
    have h2 := Int.emod_lt_of_pos k (show 0 < n by omega)
    split
    · omega
    · rename_i hc
      simp only [not_or] at hc
      have : k % n ≠ 0 := fun e => hc.2 (Int.dvd_of_emod_eq_zero e)
      omega
  obtain ⟨b1, b2⟩ := b1
  by_cases hm : k.tmod n < 0
  · have HE := Lib.hid (tmod_neg k n hm hn1)
    go_enter Try.func14, Try.ntmps14
    go_wp2
    go_ret
    exact ⟨by rw [HE.out]; rfl, rfl⟩
  · have HE := Lib.hid (tmod_pos k n hm hn1)
    go_enter Try.func14, Try.ntmps14
    go_wp2
    go_ret
    exact ⟨by rw [HE.out]; rfl, rfl⟩
/-- all that a memory's blocks are is new -/
abbrev NewLab (w : World) (lab : Lab) : Prop := ∀ b, lab b ≠ none → w.heap.size ≤ b
theorem Ext.newLab {w w1 w2 : World} {l l1 : Lab} (h : Ext w1 w2 l l1) (hs : w.heap.size ≤ w1.heap.size) (hn : NewLab w l) : NewLab w l1 := fun b hb => by
  rcases h.new b hb with q | q
  · exact hn b q
  · omega
theorem Only.newFresh {w w1 w2 : World} {lab : Lab} (h : Fresh w w1) (k : Only w1 w2 fun b => lab b ≠ none) (hn : NewLab w lab) : Fresh w w2 := h.trans k fun b q => .inr (hn b q)

/-- a memory that was made since w; lab: its blocks -/
structure Own (w w1 : World) (p : Nat) (lab : Lab) (M : PM) : Prop where
  mem : MemAt w1 p lab M
  new : NewLab w lab
  fresh : Fresh w w1
/-- a block that is no part of it -/
abbrev Out (w1 : World) (lab : Lab) (b : Nat) : Prop := lab b = none ∧ b < w1.heap.size
section
variable {w w1 w2 : World} {p : Nat} {lab lab2 : Lab} {M : PM}
theorem Own.size (h : Own w w1 p lab M) : w.heap.size ≤ w1.heap.size := h.fresh.size
theorem Own.keep (h : Own w w1 p lab M) (k : Fresh w1 w2) : Own w w2 p lab M := ⟨h.mem.fresh k, h.new, h.fresh.trans' k⟩
theorem Own.alloc (h : Own w w1 p lab M) (o : Obj) : Own w (w1.alloc o) p lab M := h.keep ((Only.refl _ _).alloc o)
theorem Own.old (h : Own w w1 p lab M) : ∀ b, lab b ≠ none → b < w1.heap.size := by
  obtain ⟨gb, bm, fv, vs, f, hm⟩ := h.mem
  exact hm.old
theorem Own.out_new (h : Own w w1 p lab M) (o : Obj) : Out (w1.alloc o) lab w1.heap.size := by
  refine ⟨?_, by simp⟩
  cases e : lab w1.heap.size with
  | none => rfl
  | some r => have := h.old w1.heap.size (by simp [e]); omega
theorem Out.fresh {b : Nat} (h : Out w1 lab b) (k : Fresh w1 w2) : Out w2 lab b := ⟨h.1, Nat.lt_of_lt_of_le h.2 k.size⟩
theorem Ext.out {b : Nat} (h : Ext w1 w2 lab lab2) (hb : Out w1 lab b) : Out w2 lab2 b := by
  refine ⟨?_, Nat.lt_of_lt_of_le hb.2 h.only.size⟩
  cases e : lab2 b with
  | none => rfl
  | some r =>
    rcases h.new b (by simp [e]) with q | q
    · exact absurd hb.1 q
    · have := hb.2; omega
theorem Ext.blk {b : Nat} {o : Obj} (h : Ext w1 w2 lab lab2) (hb : Out w1 lab b) (ho : w1.heap[b]? = some o) : w2.heap[b]? = some o := h.only.blk ho (fun q => q hb.1)
theorem own_new (w w1 : World) (hf : Fresh w w1) (n : Int) : Calls Try.prog 11 #[.int .i64 n] w1 fun e w2 => ∃ p lab, e = .returned (.pointer (some ⟨p, 0, none⟩)) ∧ Own w w2 p lab (PM.new n) ∧ Fresh w1 w2 ∧ NewLab w1 lab := by
  refine (new_any w1 n).mono ?_
  rintro e w2 ⟨p, lab, rfl, hm, hf2, hn⟩
  exact ⟨p, lab, rfl, ⟨hm, fun b hb => Nat.le_trans hf.size (hn b hb), hf.trans' hf2⟩, hf2, hn⟩
theorem Own.step {M' : PM} (h : Own w w1 p lab M) (hm : MemAt w2 p lab2 M') (hx : Ext w1 w2 lab lab2) : Own w w2 p lab2 M' := ⟨hm, hx.newLab h.size h.new, h.fresh.newFresh hx.only h.new⟩
theorem Own.push (h : Own w w1 p lab M) (hn : M.frames.length < Lim) : Calls Try.prog 12 #[.pointer (some ⟨p, 0, none⟩)] w1 fun e w2 => e = .returned (.int .i64 0) ∧ ∃ lab2, Own w w2 p lab2 M.push ∧ Ext w1 w2 lab lab2 := by
  refine (push_any h.mem hn).mono ?_
  rintro e w2 ⟨rfl, lab2, hm2, hx⟩
  exact ⟨rfl, lab2, h.step hm2 hx, hx⟩
theorem Own.make (h : Own w w1 p lab M) (n : Int) (heap : Bool) (hf : M.frames.length < Lim) (hmd : M.made < Lim) (hfl : ∀ l ∈ M.frames, l.length < Lim) :
    Calls Try.prog 13 #[.pointer (some ⟨p, 0, none⟩), .int .i64 n, .bool heap] w1 fun e w2 => e = .returned (.tuple #[.int .i64 (M.mkN n), .int .i64 (M.mkErr n)]) ∧ ∃ lab2, Own w w2 p lab2 (M.make n heap) ∧ Ext w1 w2 lab lab2 := by
  refine (make_any h.mem n heap hf hmd hfl).mono ?_
  rintro e w2 ⟨rfl, lab2, hm2, hx⟩
  exact ⟨rfl, lab2, h.step hm2 hx, hx⟩
theorem Own.store (h : Own w w1 p lab M) (x y : Int × Int) (i : Int) :
    Calls Try.prog 15 #[.pointer (some ⟨p, 0, none⟩), vv x, .int .i64 i, vv y] w1 fun e w2 => e = .returned (.int .i64 (M.storeErr x i y)) ∧ ∃ lab2, Own w w2 p lab2 (M.store x i y) ∧ Ext w1 w2 lab lab2 := by
  refine (store_any h.mem x y i).mono ?_
  rintro e w2 ⟨rfl, hm2, ho⟩
  exact ⟨rfl, lab, h.step hm2 (Ext.same ho), Ext.same ho⟩
theorem Own.load (h : Own w w1 p lab M) (x : Int × Int) (i : Int) :
    Calls Try.prog 17 #[.pointer (some ⟨p, 0, none⟩), vv x, .int .i64 i] w1 fun e w2 => e = .returned (.tuple #[vv (M.load x i), .int .i64 (M.err x i)]) ∧ Own w w2 p lab M ∧ Fresh w1 w2 := by
  refine (load_any h.mem x i).mono ?_
  rintro e w2 ⟨rfl, ho⟩
  exact ⟨rfl, h.keep ho, ho⟩
theorem Own.global (h : Own w w1 p lab M) (i : Int) :
    Calls Try.prog 18 #[.pointer (some ⟨p, 0, none⟩), .int .i64 i] w1 fun e w2 => e = .returned (.tuple #[vv (M.global i), .int .i64 (M.gerr i)]) ∧ Own w w2 p lab M ∧ Fresh w1 w2 := by
  refine (global_any h.mem i).mono ?_
  rintro e w2 ⟨rfl, ho⟩
  exact ⟨rfl, h.keep ho, ho⟩
theorem Own.setGlobal (h : Own w w1 p lab M) (i : Int) (y : Int × Int) :
    Calls Try.prog 16 #[.pointer (some ⟨p, 0, none⟩), .int .i64 i, vv y] w1 fun e w2 => e = .returned (.int .i64 (M.setGlobalErr i y)) ∧ ∃ lab2, Own w w2 p lab2 (M.setGlobal i y) ∧ Ext w1 w2 lab lab2 := by
  refine (setGlobal_any h.mem i y).mono ?_
  rintro e w2 ⟨rfl, hm2, ho⟩
  exact ⟨rfl, lab, h.step hm2 (Ext.same ho), Ext.same ho⟩
theorem Own.pop (h : Own w w1 p lab M) (hf : M.frames.length < Lim) (hfl : ∀ l ∈ M.frames, l.length < Lim) :
    Calls Try.prog 19 #[.pointer (some ⟨p, 0, none⟩)] w1 fun e w2 => e = .returned (.int .i64 M.popErr) ∧ ∃ lab2, Own w w2 p lab2 M.pop ∧ Ext w1 w2 lab lab2 := by
  refine (pop_any h.mem hf hfl).mono ?_
  rintro e w2 ⟨rfl, hm2, ho⟩
  exact ⟨rfl, lab, h.step hm2 (Ext.same ho), Ext.same ho⟩
end

def fx0 : PM := PM.new 1
def fx1 : PM := fx0.push
def fx2 : PM := fx1.make 1 false
def fx3 : PM := fx2.make 2 true
def fx4 : PM := fx3.store (2, 2) 1 (2, 1)
def fx5 : PM := fx4.pop

set_option maxRecDepth 100000 in
set_option maxHeartbeats 1000000 in
theorem fixed_any (w : World) : Calls Try.prog 10 #[] w fun e w' => e = .returned (.bool true) ∧ Fresh w w' := by
  go_enter Try.func10, Try.ntmps10
  go_wp2_with fail
  refine (own_new w w (Only.refl _ _) 1).mono ?_
  rintro e w1 ⟨p, l1, rfl, O1, _, _⟩
  have H1 := Lib.hid O1
  clear O1
  go_wp2_with fail
  refine (Own.push (M := fx0) H1.out (by decide)).mono ?_
  rintro e w2 ⟨rfl, l2, O2, X2⟩
  have H2 := Lib.hid O2
  clear O2 X2
  go_wp2_with fail
  have h := Own.make (M := fx1) H2.out 1 false (by decide) (by decide) (by decide)
  rw [show fx1.mkN 1 = 1 from rfl, show fx1.mkErr 1 = 0 from rfl] at h
  refine h.mono ?_
  clear h
  rintro e w3 ⟨rfl, l3, O3, X3⟩
  have H3 := Lib.hid O3
  clear O3 X3
  go_wp2_with fail
  have h := Own.make (M := fx2) H3.out 2 true (by decide) (by decide) (by decide)
  rw [show fx2.mkN 2 = 2 from rfl, show fx2.mkErr 2 = 0 from rfl] at h
  refine h.mono ?_
  clear h
  rintro e w4 ⟨rfl, l4, O4, X4⟩
  have H4 := Lib.hid O4
  clear O4 X4
  go_wp2_with fail
  have h := Own.store (M := fx3) H4.out (2, 2) (2, 1) 1
  rw [show fx3.storeErr (2, 2) 1 (2, 1) = 0 from rfl] at h
  refine h.mono ?_
  clear h
  rintro e w5 ⟨rfl, l5, O5, X5⟩
  have H5 := Lib.hid O5
  clear O5 X5
  go_wp2_with fail
  have h := Own.load (M := fx4) H5.out (2, 2) 1
  rw [show fx4.load (2, 2) 1 = (2, 1) from rfl, show fx4.err (2, 2) 1 = 0 from rfl] at h
  refine h.mono ?_
  clear h
  rintro e w6 ⟨rfl, O6, F6⟩
  have H6 := Lib.hid O6
  clear O6 F6
  go_wp2_with fail
  have HU := Lib.hid (H6.out.out_new (.cells #[.int .i64 2, .int .i64 1] 32))
  have h := Own.pop (M := fx4) (H6.out.alloc (.cells #[.int .i64 2, .int .i64 1] 32)) (by decide) (by decide)
  rw [show fx4.popErr = 0 from rfl] at h
  refine h.mono ?_
  clear h
  rintro e w7 ⟨rfl, l7, O7, X7⟩
  have H7 := Lib.hid O7
  have hv := X7.blk HU.out (new_blk _)
  have hv0 := blk_cell (i := 0) hv rfl
  have hv1 := blk_cell (i := 1) hv rfl
  have hv0' : w7.cell? ⟨w6.heap.size, 0, none⟩ = some (.int .i64 2) := hv0
  have hv1' : w7.cell? ⟨w6.heap.size, 1, none⟩ = some (.int .i64 1) := hv1
  have HV := Lib.hid hv
  clear O7 X7 hv0 hv1 hv
  go_wp2_with fail
  have h := Own.load (M := fx5) H7.out (2, 1) 0
  rw [show fx5.load (2, 1) 0 = (0, 0) from rfl, show fx5.err (2, 1) 0 = 32 from rfl] at h
  refine h.mono ?_
  clear h
  rintro e w8 ⟨rfl, O8, F8⟩
  have H8 := Lib.hid O8
  have hv := F8.cell HV.out
  have hv0 : w8.cell? ⟨w6.heap.size, 0, none⟩ = some (.int .i64 2) := blk_cell hv rfl
  have hv1 : w8.cell? ⟨w6.heap.size, 1, none⟩ = some (.int .i64 1) := blk_cell hv rfl
  have hz := blk_lt hv
  clear O8 F8 hv hv0' hv1'
  go_wp2_with fail
  go_ret
  exact ⟨rfl, H8.out.fresh.alloc _⟩
end Go.Proofs.Ytabfmoedbnpihaa
